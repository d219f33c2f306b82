/- The plain laws: the table may be; its cost is least; what comes more often is no longer: of lists alone. -/
import Derived.Test.YtdkgficmodcolaaTabF
namespace Go.Proofs.Ytdkgficmodcolaa
open Go.RowKit

def valsI (ys : List Nat) : List Int := ys.map fun (x : Nat) => (x : Int)
abbrev lenN (cn ys : List Nat) (v : Nat) : Nat := (codesF (natsI cn) (valsI ys) v).1
section
variable {ws R : List Int} {cn ys : List Nat}
theorem valsI_at (p : Nat) : (valsI ys).getD p 0 = ((ys.getD p 0 : Nat) : Int) := by
  unfold valsI
  rw [List.getD_eq_getElem?_getD, List.getD_eq_getElem?_getD, List.getElem?_map]
  cases ys[p]? <;> simp
theorem valsI_len : (valsI ys).length = ys.length := by simp [valsI]
theorem TabOk.check (h : TabOk ws R cn ys) : checkS (natsI cn) (valsI ys) = true :=
  check_of h.len h.small (by rw [valsI_len]; exact h.sum) (by rw [valsI_len]; exact h.n256) (List.Pairwise.map _ (fun a b hne e => hne (by omega)) h.nd) h.kr
theorem TabOk.code (h : TabOk ws R cn ys) {v : Nat} (hv : lenN cn ys v ≠ 0) : ∃ e ∈ laidC cn 0 0 0, e.1 < ys.length ∧ ys.getD e.1 0 = v ∧ lenN cn ys v = e.2.1 := by
  have hc := codesF_yes cn (valsI ys) h.check
  unfold lenN at hv ⊢
  rw [hc] at hv ⊢
  rcases codeOf_cases (valsI ys) (laidC cn 0 0 0) v with h0 | ⟨e, he, h1, h2⟩
  · rw [h0] at hv; simp at hv
  · obtain ⟨_, _, _, m4⟩ := laidC_mem he
    rw [h.sum] at m4
    rw [valsI_at] at h1
    exact ⟨e, he, by omega, by omega, by rw [h2]⟩
theorem TabOk.has (h : TabOk ws R cn ys) {v : Nat} (hv : v < 256) : lenN cn ys v ≠ 0 ↔ 0 < R.getD v 0 := by
  constructor
  · intro hne
    obtain ⟨e, _, h1, h2, _⟩ := h.code hne
    have : v ∈ ys := by rw [← h2]; exact List.mem_of_getElem? (getD_some h1)
    exact ((h.vals v).1 this).2
  · intro hpos
    have hm : v ∈ ys := (h.vals v).2 ⟨hv, hpos⟩
    obtain ⟨p, hp, rfl⟩ := List.getElem_of_mem hm
    have hpm : p ∈ (laidC cn 0 0 0).map (·.1) := by
      rw [laidC_at, h.sum]
      simp; exact hp
    obtain ⟨e, he, he1⟩ := List.mem_map.1 hpm
    have hc := codesF_yes cn (valsI ys) h.check
    unfold lenN
    rw [hc]
    obtain ⟨e2, he2, _, h3⟩ := codeOf_hit (valsI ys) (laidC cn 0 0 0) ys[p] ⟨e, he, by
      rw [valsI_at, he1, List.getD_eq_getElem?_getD, List.getElem?_eq_getElem hp]; rfl⟩
    rw [h3]
    have := laidC_mem he2
    simp only
    omega
theorem TabOk.vkr (h : TabOk ws R cn ys) : sm (fun v => if 0 < lenN cn ys v then 2 ^ (16 - lenN cn ys v) else 0) 256 ≤ 65535 := by
  unfold lenN
  rw [codesF_yes cn (valsI ys) h.check]
  have := vals_kr (valsI ys) _ (laidC cn 0 0 0) rfl
  rw [krE_laid] at this
  have := h.kr
  omega
theorem TabOk.le (h : TabOk ws R cn ys) (h16 : ∀ i, i ≤ 256 → R.getD i 0 ≤ 16) {v : Nat} (hv : v < 256) (hpos : 0 < R.getD v 0) : (lenN cn ys v : Int) ≤ R.getD v 0 := by
  obtain ⟨e, he, h1, h2, h3⟩ := h.code ((h.has hv).2 hpos)
  rw [h3]
  obtain ⟨k, hk⟩ : ∃ k : Nat, R.getD v 0 = k := ⟨(R.getD v 0).toNat, by omega⟩
  have hs := h.short h16 e.1 k h1 (by rw [h2]; exact hk)
  obtain ⟨h4, _⟩ := laid_take cn 0 0 0 e he
  rw [hk]
  apply Classical.byContradiction
  intro hno
  have := take_sum_le cn k (e.2.1 - 1 - 0) (by omega)
  omega
theorem TabOk.of (h : TabOk ws R cn ys) (h16 : ∀ i, i ≤ 256 → R.getD i 0 ≤ 16) {v : Nat} (hv : lenN cn ys v ≠ 0) : ∃ i, i ≤ 256 ∧ R.getD i 0 = lenN cn ys v := by
  obtain ⟨e, he, h1, h2, h3⟩ := h.code hv
  obtain ⟨_, h4⟩ := laid_take cn 0 0 0 e he
  obtain ⟨i, hi, hr⟩ := h.cnt _ h4 h16
  have := laidC_mem he
  exact ⟨i, hi, by rw [hr, h3]; omega⟩
theorem SizesOk.comes_iff (h : SizesOk ws R) {v : Nat} (hv : v < 256) : 0 < R.getD v 0 ↔ 0 < ws.getD v 0 := by
  constructor
  · intro hp
    exact Classical.byContradiction fun hno => by rw [h.zero v hv hno] at hp; exact absurd hp (by decide)
  · intro hp
    have := (h.pos v hv hp).1
    omega
/-- each that comes has a code -/
theorem TabOk.cost_nn (h : TabOk ws R cn ys) (hws : ∀ i, 0 ≤ ws.getD i 0) {r : Int} (hr : CostR (lenN cn ys) ws r) : r = sm (fun v => ws.getD v 0 * (lenN cn ys v : Int)) 256 ∧ 0 ≤ r := by
  have := hr.all fun v hv hp => (h.has hv).2 ((h.ok.comes_iff hv).2 hp)
  refine ⟨this, ?_⟩
  rw [this]
  exact sm_nonneg fun i _ => Int.mul_nonneg (hws i) (by omega)
theorem two_dvd (a b : Nat) (h : a ≤ b) : (2 : Int) ^ a ∣ 2 ^ b := ⟨2 ^ (b - a), by rw [← Int.pow_add, show a + (b - a) = b by omega]⟩
/-- no size above 15: the other's neither -/
theorem SizesOk.last15 (h : SizesOk ws R) (h15 : ∀ i, i < 256 → R.getD i 0 ≤ 15) : R.getD 256 0 ≤ 15 := by
  have hk := h.krf
  have hd : ∀ m, (2 : Int) ^ 241 ∣ sm (fun i => if 0 < ws.getD i 0 then 2 ^ (256 - (R.getD i 0).toNat) else 0) m ∨ 256 < m := fun m => by
    induction m with
    | zero => exact .inl (by simp [sm])
    | succ m ih =>
      by_cases hm : 256 < m + 1
      · exact .inr hm
      · rcases ih with ih | ih
        · refine .inl ?_
          rw [sm]
          refine Int.dvd_add ih ?_
          split
          · have := h15 m (by omega)
            exact two_dvd 241 _ (by omega)
          · simp
        · exact .inr (by omega)
  have h1 : (2 : Int) ^ 241 ∣ 2 ^ (256 - (R.getD 256 0).toNat) := by
    have e : (2 : Int) ^ (256 - (R.getD 256 0).toNat) = 2 ^ 256 - sm (fun i => if 0 < ws.getD i 0 then 2 ^ (256 - (R.getD i 0).toNat) else 0) 256 := by rw [← hk]; exact (Int.add_sub_cancel _ _).symm
    rw [e]
    refine Int.dvd_sub (two_dvd 241 256 (by decide)) ?_
    rcases hd 256 with h | h
    · exact h
    · omega
  apply Classical.byContradiction
  intro hno
  have hle := Int.le_of_dvd (Int.pow_pos (by decide)) h1
  have hlt : (2 : Int) ^ (256 - (R.getD 256 0).toNat) < 2 ^ 241 := by
    exact_mod_cast Nat.pow_lt_pow_right (by decide : 1 < 2) (by omega : 256 - (R.getD 256 0).toNat < 241)
  omega
/-- the least cost -/
theorem least (hws : ∀ i, 0 ≤ ws.getD i 0) (h : TabOk ws R cn ys) (h15 : ∀ i, i < 256 → R.getD i 0 ≤ 15) {ws' R' : List Int} {cn' ys' : List Nat} (h' : TabOk ws' R' cn' ys') {own cost : Int} (ho : CostR (lenN cn ys) ws own) (hc : CostR (lenN cn' ys') ws cost) :
    own ≤ sm (fun i => R.getD i 0 * ws.getD i 0) 256 ∧ 0 ≤ own ∧ (cost < 0 ∨ own ≤ cost + 15) := by
  obtain ⟨o1, o2⟩ := h.cost_nn hws ho
  have h16 : ∀ i, i ≤ 256 → R.getD i 0 ≤ 16 := fun i hi => by
    by_cases e : i = 256
    · subst e; have := h.ok.last15 h15; omega
    · have := h15 i (by omega); omega
  have hown : own ≤ sm (fun i => ws.getD i 0 * R.getD i 0) 256 := by
    rw [o1]
    refine sm_le fun v hv => ?_
    by_cases hp : 0 < ws.getD v 0
    · exact Int.mul_le_mul_of_nonneg_left (h.le h16 hv ((h.ok.comes_iff hv).2 hp)) (hws v)
    · have := hws v
      rw [show ws.getD v 0 = 0 by omega, Int.zero_mul, Int.zero_mul]; exact Int.le_refl _
  refine ⟨by rw [sm_congr (g := fun i => ws.getD i 0 * R.getD i 0) fun i _ => Int.mul_comm _ _]; exact hown, o2, ?_⟩
  by_cases hex : ∃ v, v < 256 ∧ 0 < ws.getD v 0 ∧ lenN cn' ys' v = 0
  · exact .inl (by rw [hc.no hex]; decide)
  · have hall : ∀ v, v < 256 → 0 < ws.getD v 0 → lenN cn' ys' v ≠ 0 := fun v h1 h2 h3 => hex ⟨v, h1, h2, h3⟩
    have hcost := hc.all hall
    refine .inr ?_
    have hk := h'.vkr
    have hb : ∀ v, lenN cn' ys' v ≤ 16 := fun v => codesF_bd _ _ (by rw [natsI, List.length_map]; exact h'.len) v
    have ho := h.ok.opt (fun i => if i = 256 then 16 else lenN cn' ys' i) 16 (fun i _ => by
      by_cases e : i = 256
      · rw [if_pos e]; omega
      · rw [if_neg e]; exact hb i) (by
      have h1 : sm (fun i => if 0 < ws.getD i 0 then (2 : Int) ^ (16 - if i = 256 then 16 else lenN cn' ys' i) else 0) 256 ≤ sm (fun v => if 0 < lenN cn' ys' v then 2 ^ (16 - lenN cn' ys' v) else 0) 256 := by
        refine sm_le fun i hi => ?_
        rw [if_neg (show ¬ i = 256 by omega)]
        by_cases hp : 0 < ws.getD i 0
        · rw [if_pos hp, if_pos (by have := hall i hi hp; omega)]; exact Int.le_refl _
        · rw [if_neg hp]
          split
          · exact Int.le_of_lt (Int.pow_pos (by decide))
          · exact Int.le_refl _
      rw [if_pos rfl]
      have e16 : (2 : Int) ^ 16 = 65536 := by decide
      have e0 : (2 : Int) ^ (16 - 16) = 1 := by decide
      rw [e16, e0]
      omega)
    rw [if_pos rfl, sm_congr (f := fun i => ws.getD i 0 * ((if i = 256 then 16 else lenN cn' ys' i : Nat) : Int)) (g := fun v => ws.getD v 0 * (lenN cn' ys' v : Int)) fun i hi => by rw [if_neg (show ¬ i = 256 by omega)], ← hcost] at ho
    by_cases hsome : ∃ v, v < 256 ∧ 0 < ws.getD v 0
    · obtain ⟨v, v1, v2⟩ := hsome
      have := (h.ok.pos v v1 v2).2
      omega
    · have : own = 0 := by
        rw [o1]
        exact sm_zero fun i hi => by
          have := hws i
          have : ¬ 0 < ws.getD i 0 := fun e => hsome ⟨i, hi, e⟩
          rw [show ws.getD i 0 = 0 by omega, Int.zero_mul]
      have hc0 : 0 ≤ cost := by rw [hcost]; exact sm_nonneg fun i _ => Int.mul_nonneg (hws i) (by omega)
      omega
end
end Go.Proofs.Ytdkgficmodcolaa
