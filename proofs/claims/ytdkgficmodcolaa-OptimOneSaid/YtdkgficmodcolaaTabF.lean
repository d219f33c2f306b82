/- What is known of the table that Best gives: in plain lists. -/
import Derived.Test.YtdkgficmodcolaaCodeM
namespace Go.Proofs.Ytdkgficmodcolaa
open Go.RowKit

theorem comes_sm (R : List Int) (g : Nat → Bool) : ∀ k, (((comes R k).countP g : Nat) : Int) = sm (fun i => if 0 < R.getD i 0 ∧ g i = true then 1 else 0) k
  | 0 => by simp [comes, sm]
  | k + 1 => by
    rw [sm]
    by_cases h : 0 < R.getD k 0
    · rw [comes_yes h, List.countP_append, Int.natCast_add, comes_sm R g k]
      by_cases hg : g k = true
      · rw [if_pos ⟨h, hg⟩]; simp [hg]
      · rw [if_neg (fun hh => hg hh.2)]; simp [hg]
    · rw [comes_no h, comes_sm R g k, if_neg (fun hh => h hh.1), Int.add_zero]
theorem comes_nodup (R : List Int) (k : Nat) : (comes R k).Nodup := List.Pairwise.filter _ List.nodup_range
theorem reads_bytesN {w : World} {B : Nat} {A : Option Addr} {n : Nat} {ys : List Nat} (h : Reads w B 1 A n (bytesN ys)) : Reads w B 1 A n (bytesV (ys.map fun (x : Nat) => (x : Int))) := by
  have : bytesV (ys.map fun (x : Nat) => (x : Int)) = bytesN ys := by simp [bytesV, bytesN]
  rw [this]; exact h
/-- what is known of the counts and the values -/
structure TabOk (ws R : List Int) (cn : List Nat) (ys : List Nat) : Prop where
  ok : SizesOk ws R
  len : cn.length = 16
  small : ∀ x ∈ cn, x ≤ 255
  kr : krC 0 cn ≤ 65535
  vals : ∀ v, v ∈ ys ↔ v < 256 ∧ 0 < R.getD v 0
  nd : ys.Nodup
  n256 : ys.length ≤ 256
  sum : cn.sum = ys.length
  cnt : ∀ k, 0 < cn.getD k 0 → (∀ i, i ≤ 256 → R.getD i 0 ≤ 16) → ∃ i, i ≤ 256 ∧ R.getD i 0 = (k : Int) + 1
  short : (∀ i, i ≤ 256 → R.getD i 0 ≤ 16) → ∀ p k : Nat, p < ys.length → R.getD (ys.getD p 0) 0 = k → p < (cn.take k).sum
  srt : Srt (keyS R) ys 0 ys.length
section
variable {ws R n : List Int} {ys : List Nat}
theorem SizesOk.tot (hok : SizesOk ws R) : lin tg (histS R) = ((comes R 256).length : Int) + tg (R.getD 256 0).toNat := by
  rw [lin_hist hok.len hok.nn tg (if_pos rfl), sm]
  refine congrArg (fun t => t + tg (R.getD 256 0).toNat) ?_
  have := comes_sm R (fun _ => true) 256
  rw [List.countP_true] at this
  rw [this]
  refine sm_congr fun i _ => ?_
  have := hok.nn i
  by_cases h : 0 < R.getD i 0
  · rw [if_pos ⟨h, rfl⟩, tg_pos (by omega)]
  · rw [if_neg (fun hh => h hh.1), show (R.getD i 0).toNat = 0 by omega]; rfl
/-- where anything comes, the value that none is has a size -/
theorem SizesOk.last1 (hok : SizesOk ws R) (h : 0 < lin tg (histS R)) : 1 ≤ R.getD 256 0 := by
  rw [hok.tot] at h
  have h2 := (hok.nn 256).1
  by_cases hc : (comes R 256) = []
  · rw [hc] at h
    apply Classical.byContradiction
    intro hno
    rw [show (R.getD 256 0).toNat = 0 by omega] at h
    simp [tg] at h
  · obtain ⟨v, t, e⟩ := List.exists_cons_of_ne_nil hc
    have hv : v ∈ comes R 256 := by rw [e]; simp
    obtain ⟨v1, v2⟩ := comes_mem.1 hv
    have hw : 0 < ws.getD v 0 := Classical.byContradiction fun hno => by rw [hok.zero v v1 hno] at v2; exact absurd v2 (by decide)
    exact (hok.pos v v1 hw).2
theorem tab_ok (hok : SizesOk ws R) (hsh : ShI (histS R) n 16) (hpm : ys.Perm (comes R 256)) (hso : Srt (keyS R) ys 0 ys.length) : ∃ cn, decA (c16 n) 16 = natsI cn ∧ TabOk ws R cn ys := by
  have hp := hist_shp hok
  have hcnt := cnt_of hp hsh
  obtain ⟨cn, h1, h2, h3⟩ := natsI_of (ct := decA (c16 n) 16) fun x hx => by
    obtain ⟨i, hi, rfl⟩ := List.getElem_of_mem hx
    have := hcnt.small i
    rwa [List.getD_eq_getElem?_getD, List.getElem?_eq_getElem hi] at this
  have hcl : cn.length = 16 := by rw [h2, decA_len, hcnt.len]
  have htl : lin (fun _ => 1) (c16 n) = lin tg (histS R) := by
    rw [← hsh.tot, lin_c16 hsh.len hsh.z0 hsh.top, lin_sm _ _ 16 (by rw [hcnt.len]; omega), lin_sm _ _ 16 (by rw [hcnt.len]; omega)]
    exact sm_congr fun i _ => by rw [tg_pos (by omega)]
  have hcv : ∀ v, v ∈ ys ↔ v < 256 ∧ 0 < R.getD v 0 := fun v => by rw [hpm.mem_iff]; exact comes_mem
  have htg : ∀ k, 0 ≤ tg k ∧ tg k ≤ 1 := fun k => by unfold tg; split <;> decide
  have hz16 : (∀ i, i < 16 → ¬ 0 < (c16 n).getD i 0) → ∀ g, lin g (c16 n) = 0 := fun hz g => by
    rw [lin_sm _ _ 16 (by rw [hcnt.len]; omega)]
    exact sm_zero fun i hi => by
      have := hz i hi
      have := hcnt.nn i
      rw [show (c16 n).getD i 0 = 0 by omega, Int.zero_mul]
  have hsame : (∀ i, i ≤ 256 → R.getD i 0 ≤ 16) → n = histS R := fun h16 => hsh.same fun k hk => by
    by_cases hk2 : k < 258
    · rw [hist_at hok.len hok.nn (by omega) hk2]
      exact sm_zero fun i hi => by
        have := h16 i (by omega)
        rw [if_neg (by omega)]
    · rw [List.getD_eq_getElem?_getD, List.getElem?_eq_none (by rw [hist_len]; omega)]; rfl
  have hone : 0 < lin (fun _ => 1) (c16 n) → 1 ≤ R.getD 256 0 := fun h => hok.last1 (by rw [← htl]; exact h)
  have hlast : ∀ i, 0 < (c16 n).getD i 0 → 1 ≤ R.getD 256 0 := fun i hi => hone (by
    have := lin_one (c16 n) (fun _ => 1) (fun k => by rw [Int.mul_one]; exact hcnt.nn k) i
    rw [Int.mul_one] at this
    omega)
  refine ⟨cn, h1, hok, hcl, h3, ?_, hcv, (hpm.nodup_iff).2 (comes_nodup R 256), ?_, ?_, ?_, ?_, hso⟩
  · have hk := krC_lin cn 0
    rw [← h1] at hk
    simp only [Nat.zero_add] at hk
    apply Int.ofNat_le.1
    rw [hk]
    rcases decA_cases (c16 n) 16 with ⟨d1, d2⟩ | ⟨t, d1, d2, d3, d4⟩
    · rw [d2, hz16 d1]; decide
    · rw [d4, lin_set _ _ _ _ (by rw [hcnt.len]; exact d1), hcnt.kr ⟨t, d2⟩]
      have : (1 : Int) ≤ 2 ^ (15 - t) := Int.pow_pos (by decide)
      have e : (c16 n).getD t 0 - 1 - (c16 n).getD t 0 = -1 := by omega
      rw [e]; omega
  · rw [hpm.length_eq]; exact comes_len R 256
  · have hs := lin_one_sum cn
    rw [← h1] at hs
    rw [hpm.length_eq]
    apply Int.ofNat_inj.1
    rw [← hs]
    have ht := hok.tot
    rw [← htl] at ht
    rcases decA_cases (c16 n) 16 with ⟨d1, d2⟩ | ⟨t, d1, d2, d3, d4⟩
    · rw [d2]
      have := htg (R.getD 256 0).toNat
      have := hz16 d1 (fun _ => 1)
      omega
    · rw [d4, lin_set _ _ _ _ (by rw [hcnt.len]; exact d1), ht, tg_pos (by have := hlast t d2; omega)]
      omega
  · intro k hk h16
    have hn := hsame h16
    have hk16 : k < 16 := by
      apply Nat.lt_of_not_le
      intro h
      rw [List.getD_eq_getElem?_getD, List.getElem?_eq_none (by omega)] at hk
      simp at hk
    have hc : 0 < (c16 n).getD k 0 := by
      have e : ((cn.getD k 0 : Nat) : Int) = (decA (c16 n) 16).getD k 0 := by
        rw [h1]; unfold natsI
        rw [List.getD_eq_getElem?_getD, List.getD_eq_getElem?_getD, List.getElem?_map]
        cases cn[k]? <;> simp
      rcases decA_cases (c16 n) 16 with ⟨d1, d2⟩ | ⟨t, d1, d2, d3, d4⟩
      · rw [d2] at e; omega
      · rw [d4, getD_set _ _ _ _ (by rw [hcnt.len]; exact d1)] at e
        by_cases e2 : k = t
        · rw [e2]; exact d2
        · rw [if_neg e2] at e; omega
    rw [c16_at hk16, hn, hist_at hok.len hok.nn (by omega) (by omega)] at hc
    apply Classical.byContradiction
    intro hno
    rw [sm_zero fun i hi => ?_] at hc
    · exact absurd hc (by decide)
    · rw [if_neg]
      intro e
      exact hno ⟨i, by omega, by have := hok.nn i; omega⟩
  · intro h16 p k hpl hk
    have hn := hsame h16
    obtain ⟨v, hv⟩ : ∃ v, v = ys.getD p 0 := ⟨_, rfl⟩
    have hvm : v ∈ ys := by rw [hv]; exact List.mem_of_getElem? (getD_some hpl)
    obtain ⟨v1, v2⟩ := (hcv v).1 hvm
    rw [← hv] at hk
    have hk16 := h16 v (by omega)
    have hls := lin_take_sum cn k
    rw [← h1] at hls
    apply Int.ofNat_lt.1
    rw [← hls]
    -- how many have a size up to k
    have hg0 : (fun j => if j = 0 then (0 : Int) else if j ≤ k then 1 else 0) 0 = 0 := rfl
    have l1 := lin_hist hok.len hok.nn (fun j => if j = 0 then (0 : Int) else if j ≤ k then 1 else 0) hg0
    rw [← hn, lin_c16 hsh.len hsh.z0 hsh.top, sm] at l1
    have e1 : (fun i => (fun j => if j = 0 then (0 : Int) else if j ≤ k then 1 else 0) (i + 1)) = fun i => if i < k then 1 else 0 := funext fun i => by
      simp only [Nat.add_one_ne_zero, if_false]
      by_cases h : i < k
      · rw [if_pos h, if_pos (by omega)]
      · rw [if_neg h, if_neg (by omega)]
    rw [e1] at l1
    have l2 := comes_sm R (fun i => decide (R.getD i 0 ≤ k)) 256
    have l3 : sm (fun i => (fun j => if j = 0 then (0 : Int) else if j ≤ k then 1 else 0) (R.getD i 0).toNat) 256 = (((comes R 256).countP fun i => decide (R.getD i 0 ≤ k) : Nat) : Int) := by
      rw [l2]
      refine sm_congr fun i _ => ?_
      have := hok.nn i
      simp only [decide_eq_true_eq]
      by_cases h0 : R.getD i 0 = 0
      · rw [if_pos (by omega), if_neg (by omega)]
      · rw [if_neg (by omega)]
        by_cases h : R.getD i 0 ≤ k
        · rw [if_pos (by omega), if_pos (by omega)]
        · rw [if_neg (by omega), if_neg (by omega)]
    rw [l3] at l1
    have l4 : p + 1 ≤ (comes R 256).countP fun i => decide (R.getD i 0 ≤ k) := by
      rw [← hpm.countP_eq]
      have hsub := (List.take_sublist (p + 1) ys).countP_le (p := fun i => decide (R.getD i 0 ≤ (k : Int)))
      refine Nat.le_trans (Nat.le_of_eq ?_) hsub
      rw [List.countP_eq_length.2, List.length_take]
      · omega
      · intro u hu
        obtain ⟨i, hi, rfl⟩ := List.getElem_of_mem hu
        rw [List.length_take] at hi
        have := hso i p (by omega) (by omega) hpl
        rw [← hv] at this
        unfold keyS at this
        rw [hk] at this
        rw [List.getElem_take]
        have e : ys.getD i 0 = ys[i] := by rw [List.getD_eq_getElem?_getD, List.getElem?_eq_getElem (by omega)]; rfl
        rw [e] at this
        simpa using this
    have l5 : (p : Int) + 1 + (if (R.getD 256 0).toNat = 0 then (0 : Int) else if (R.getD 256 0).toNat ≤ k then 1 else 0) ≤ lin (fun i => if i < k then 1 else 0) (c16 n) := by
      rw [l1]
      have := Int.ofNat_le.2 l4
      omega
    rcases decA_cases (c16 n) 16 with ⟨d1, d2⟩ | ⟨t, d1, d2, d3, d4⟩
    · rw [d2]
      refine Int.lt_of_lt_of_le ?_ l5
      split
      · omega
      · split <;> omega
    · rw [d4, lin_set _ _ _ _ (by rw [hcnt.len]; exact d1)]
      have e : (c16 n).getD t 0 - 1 - (c16 n).getD t 0 = -1 := by omega
      rw [e]
      by_cases htk : t < k
      · rw [if_pos htk]
        have hl1 := hlast t d2
        have hl2 : R.getD 256 0 ≤ t + 1 := by
          apply Classical.byContradiction
          intro hno
          have hl16 := h16 256 (by omega)
          obtain ⟨j, hj⟩ : ∃ j : Nat, R.getD 256 0 = (j : Int) + 1 := ⟨(R.getD 256 0).toNat - 1, by omega⟩
          refine d3 j (by omega) (by omega) ?_
          rw [c16_at (by omega), hn, hist_at hok.len hok.nn (by omega) (by omega), sm]
          have : 0 ≤ sm (fun i => if (R.getD i 0).toNat = j + 1 then (1 : Int) else 0) 256 := sm_nonneg fun i _ => by split <;> decide
          rw [if_pos (by omega)]; omega
        rw [if_neg (by omega), if_pos (by omega)] at l5
        omega
      · rw [if_neg htk]
        refine Int.lt_of_lt_of_le (Int.lt_of_lt_of_le ?_ l5) (by omega)
        split
        · omega
        · split <;> omega
end
end Go.Proofs.Ytdkgficmodcolaa
