/- The chapter's example; one value alone; all alike; none: of lists alone. -/
import Derived.Test.YtdkgficmodcolaaLawM
namespace Go.Proofs.Ytdkgficmodcolaa
open Go.RowKit

theorem sm_two {f : Nat → Int} {u v : Nat} (huv : u < v) : ∀ n, (∀ i, i < n → i ≠ u → i ≠ v → f i = 0) → sm f n = (if u < n then f u else 0) + (if v < n then f v else 0)
  | 0, _ => by simp [sm]
  | n + 1, h => by
    have ih := sm_two huv n fun i hi => h i (by omega)
    rw [sm, ih]
    by_cases e1 : n = u
    · subst e1
      rw [if_neg (by omega), if_neg (by omega), if_pos (by omega), if_neg (by omega)]; omega
    · by_cases e2 : n = v
      · subst e2
        rw [if_pos (by omega), if_neg (by omega), if_pos (by omega), if_pos (by omega)]; omega
      · rw [h n (by omega) e1 e2]
        by_cases h1 : u < n
        · rw [if_pos h1, if_pos (show u < n + 1 by omega)]
          by_cases h2 : v < n
          · rw [if_pos h2, if_pos (show v < n + 1 by omega)]; omega
          · rw [if_neg h2, if_neg (show ¬ v < n + 1 by omega)]; omega
        · rw [if_neg h1, if_neg (show ¬ u < n + 1 by omega), if_neg (show ¬ v < n by omega), if_neg (show ¬ v < n + 1 by omega)]; omega
theorem sm_only {f : Nat → Int} {u : Nat} : ∀ n, (∀ i, i < n → i ≠ u → f i = 0) → sm f n = if u < n then f u else 0
  | 0, _ => by simp [sm]
  | n + 1, h => by
    have ih := sm_only n fun i hi => h i (by omega)
    rw [sm, ih]
    by_cases e1 : n = u
    · subst e1
      rw [if_neg (by omega), if_pos (by omega)]; omega
    · rw [h n (by omega) e1]
      by_cases h1 : u < n
      · rw [if_pos h1, if_pos (show u < n + 1 by omega)]; omega
      · rw [if_neg h1, if_neg (show ¬ u < n + 1 by omega)]; omega
theorem pow_le2 {a b : Nat} (h : a ≤ b) : (2 : Int) ^ a ≤ 2 ^ b := by exact_mod_cast Nat.pow_le_pow_right (by decide : 0 < 2) h
section
variable {ws R : List Int} {cn ys : List Nat}
theorem TabOk.head (h : TabOk ws R cn ys) {v k : Nat} (hv : lenN cn ys v = k + 1) : 0 < cn.getD k 0 := by
  obtain ⟨e, he, _, _, h3⟩ := h.code (v := v) (by omega)
  obtain ⟨_, h4⟩ := laid_take cn 0 0 0 e he
  rw [show k = e.2.1 - 1 - 0 by omega]
  exact h4
theorem getD_le_sum : ∀ (cn : List Nat) (i : Nat), cn.getD i 0 ≤ cn.sum
  | [], _ => by simp
  | c :: t, 0 => by simp
  | c :: t, i + 1 => by
    have := getD_le_sum t i
    simp only [List.getD_cons_succ, List.sum_cons]; omega
theorem two_le_sum : ∀ (cn : List Nat), cn.getD 0 0 + cn.getD 1 0 ≤ cn.sum
  | [] => by simp
  | c :: t => by
    have := getD_le_sum t 0
    simp only [List.getD_cons_zero, List.getD_cons_succ, List.sum_cons]; omega
/-- the chapter's example: sizes -/
theorem known_sizes (hok : SizesOk ws R) (h0 : ws.getD 0 0 = 5) (h1 : ws.getD 1 0 = 1) (hr : ∀ i, i < 256 → 2 ≤ i → ws.getD i 0 = 0) : R.getD 0 0 = 1 ∧ R.getD 1 0 = 2 ∧ R.getD 256 0 = 2 := by
  have hk := hok.krf
  rw [sm_two (u := 0) (v := 1) (by decide) 256 (fun i hi e1 e2 => by rw [hr i hi (by omega)]; rfl)] at hk
  rw [if_pos (by decide : 0 < 256), if_pos (by decide : 1 < 256), if_pos (by rw [h0]; decide), if_pos (by rw [h1]; decide)] at hk
  have a0 := (hok.pos 0 (by decide) (by rw [h0]; decide)).1
  have b0 := (hok.pos 1 (by decide) (by rw [h1]; decide)).1
  have c0 := (hok.pos 0 (by decide) (by rw [h0]; decide)).2
  have a1 := (hok.nn 0).2
  have b1 := (hok.nn 1).2
  have c1 := (hok.nn 256).2
  have ab := hok.ord 0 1 (by decide) (by decide) (by rw [h1]; decide) (by rw [h0, h1]; decide)
  have ac := hok.low 0 (by decide) (by rw [h0]; decide)
  obtain ⟨a, ha⟩ : ∃ a : Nat, R.getD 0 0 = a := ⟨(R.getD 0 0).toNat, by omega⟩
  obtain ⟨b, hb⟩ : ∃ b : Nat, R.getD 1 0 = b := ⟨(R.getD 1 0).toNat, by omega⟩
  obtain ⟨c, hc⟩ : ∃ c : Nat, R.getD 256 0 = c := ⟨(R.getD 256 0).toNat, by omega⟩
  rw [ha, hb, hc] at hk
  rw [ha, hb, hc]
  simp only [Int.toNat_natCast] at hk
  have e256 : (2 : Int) ^ 256 = 4 * 2 ^ 254 := by rw [two_pow_succ 255, two_pow_succ 254]; omega
  have e255 : (2 : Int) ^ 255 = 2 * 2 ^ 254 := two_pow_succ 254
  have e254 : (2 : Int) ^ 254 = 2 * 2 ^ 253 := two_pow_succ 253
  have p253 : (0 : Int) < 2 ^ 253 := Int.pow_pos (by decide)
  have pb : (0 : Int) < 2 ^ (256 - b) := Int.pow_pos (by decide)
  have pc : (0 : Int) < 2 ^ (256 - c) := Int.pow_pos (by decide)
  have ha1 : a = 1 := by
    apply Classical.byContradiction
    intro hne
    have q1 := pow_le2 (a := 256 - a) (b := 254) (by omega)
    have q2 := pow_le2 (a := 256 - b) (b := 254) (by omega)
    have q3 := pow_le2 (a := 256 - c) (b := 254) (by omega)
    omega
  subst ha1
  rw [show 256 - 1 = 255 from rfl] at hk
  have hb2 : 2 ≤ b := by
    apply Classical.byContradiction
    intro hne
    have : b = 1 := by omega
    subst this
    rw [show 256 - 1 = 255 from rfl] at hk
    omega
  have hc2 : 2 ≤ c := by
    apply Classical.byContradiction
    intro hne
    have : c = 1 := by omega
    subst this
    rw [show 256 - 1 = 255 from rfl] at hk
    omega
  have q2 := pow_le2 (a := 256 - b) (b := 254) (by omega)
  have q3 := pow_le2 (a := 256 - c) (b := 254) (by omega)
  refine ⟨rfl, ?_, ?_⟩
  · apply Classical.byContradiction
    intro hne
    have := pow_le2 (a := 256 - b) (b := 253) (by omega)
    omega
  · apply Classical.byContradiction
    intro hne
    have := pow_le2 (a := 256 - c) (b := 253) (by omega)
    omega
/-- the chapter's example: the table and its cost -/
theorem known_tab (h : TabOk ws R cn ys) (hn : ∀ i, 0 ≤ ws.getD i 0) (h0 : ws.getD 0 0 = 5) (h1 : ws.getD 1 0 = 1) (hr : ∀ i, i < 256 → 2 ≤ i → ws.getD i 0 = 0) : cn.getD 0 0 = 1 ∧ cn.getD 1 0 = 1 ∧ ys = [0, 1] ∧ ∀ r, CostR (lenN cn ys) ws r → r = 7 := by
  obtain ⟨r0, r1, r2⟩ := known_sizes h.ok h0 h1 hr
  have hz : ∀ i, i < 256 → 2 ≤ i → R.getD i 0 = 0 := fun i hi h2 => h.ok.zero i hi (by rw [hr i hi h2]; decide)
  have h16 : ∀ i, i ≤ 256 → R.getD i 0 ≤ 16 := fun i hi => by
    rcases (by omega : i = 0 ∨ i = 1 ∨ i = 256 ∨ (2 ≤ i ∧ i < 256)) with rfl | rfl | rfl | ⟨e1, e2⟩
    · rw [r0]; decide
    · rw [r1]; decide
    · rw [r2]; decide
    · rw [hz i e2 e1]; decide
  have hys : ys = [0, 1] := by
    have hp : ys.Perm [0, 1] := (List.perm_ext_iff_of_nodup h.nd (by decide)).2 fun v => by
      rw [h.vals]
      constructor
      · rintro ⟨v1, v2⟩
        by_cases e : 2 ≤ v
        · rw [hz v v1 e] at v2; exact absurd v2 (by decide)
        · simp; omega
      · intro hv
        simp at hv
        rcases hv with rfl | rfl
        · exact ⟨by decide, by rw [r0]; decide⟩
        · exact ⟨by decide, by rw [r1]; decide⟩
    have hl := hp.length_eq
    match ys, hl, hp, h.srt with
    | [a, b], _, hp, hs =>
      have ha : a = 0 ∨ a = 1 := by have := hp.mem_iff.1 (show a ∈ [a, b] by simp); simpa using this
      have hb : b = 0 ∨ b = 1 := by have := hp.mem_iff.1 (show b ∈ [a, b] by simp); simpa using this
      have hnd := hp.nodup_iff.2 (by decide)
      have hs01 := hs 0 1 (by decide) (by decide) (by simp)
      simp only [keyS, List.getD_cons_zero, List.getD_cons_succ] at hs01
      rcases ha with rfl | rfl <;> rcases hb with rfl | rfl
      · simp at hnd
      · rfl
      · rw [r0, r1] at hs01; exact absurd hs01 (by decide)
      · simp at hnd
  have n0 := h.le h16 (v := 0) (by decide) (by rw [r0]; decide)
  have n1 := h.le h16 (v := 1) (by decide) (by rw [r1]; decide)
  have m0 := (h.has (v := 0) (by decide)).2 (by rw [r0]; decide)
  have m1 := (h.has (v := 1) (by decide)).2 (by rw [r1]; decide)
  rw [r0] at n0
  rw [r1] at n1
  have hn0 : lenN cn ys 0 = 1 := by omega
  have hk := h.vkr
  have hn1 : lenN cn ys 1 = 2 := by
    apply Classical.byContradiction
    intro hne
    have e1 : lenN cn ys 1 = 1 := by omega
    have hle := sm_le (f := fun v => if v = 0 ∨ v = 1 then (32768 : Int) else 0) (g := fun v => if 0 < lenN cn ys v then 2 ^ (16 - lenN cn ys v) else 0) (n := 256) fun i hi => by
      by_cases e : i = 0 ∨ i = 1
      · rw [if_pos e]
        have : lenN cn ys i = 1 := by rcases e with rfl | rfl <;> assumption
        rw [this]; decide
      · rw [if_neg e]
        split
        · exact Int.le_of_lt (Int.pow_pos (by decide))
        · exact Int.le_refl _
    rw [sm_two (u := 0) (v := 1) (by decide) 256 (fun i hi e1 e2 => if_neg (by omega))] at hle
    simp at hle
    omega
  have c0 := h.head (v := 0) (k := 0) hn0
  have c1 := h.head (v := 1) (k := 1) hn1
  have hs := h.sum
  have h2 := two_le_sum cn
  have hl : ys.length = 2 := by rw [hys]; rfl
  refine ⟨by omega, by omega, hys, fun r hc => ?_⟩
  rw [(h.cost_nn hn hc).1, sm_two (u := 0) (v := 1) (by decide) 256 (fun i hi e1 e2 => by rw [hr i hi (by omega), Int.zero_mul])]
  rw [if_pos (by decide : 0 < 256), if_pos (by decide : 1 < 256), h0, h1, hn0, hn1]; rfl
/-- one value alone -/
theorem one_tab (h : TabOk ws R cn ys) (hn : ∀ i, 0 ≤ ws.getD i 0) {v : Nat} {x : Int} (hv : v < 256) (hx : 0 < x) (h0 : ws.getD v 0 = x) (hr : ∀ i, i < 256 → i ≠ v → ws.getD i 0 = 0) : cn.getD 0 0 = 1 ∧ ys = [v] ∧ ∀ r, CostR (lenN cn ys) ws r → r = x := by
  have hk := h.ok.krf
  rw [sm_only (u := v) 256 (fun i hi e => by rw [hr i hi e]; rfl), if_pos hv, if_pos (by rw [h0]; exact hx)] at hk
  have a0 := (h.ok.pos v hv (by rw [h0]; exact hx)).1
  have c0 := (h.ok.pos v hv (by rw [h0]; exact hx)).2
  have a1 := (h.ok.nn v).2
  have c1 := (h.ok.nn 256).2
  obtain ⟨a, ha⟩ : ∃ a : Nat, R.getD v 0 = a := ⟨(R.getD v 0).toNat, by omega⟩
  obtain ⟨c, hc⟩ : ∃ c : Nat, R.getD 256 0 = c := ⟨(R.getD 256 0).toNat, by omega⟩
  rw [ha, hc] at hk
  simp only [Int.toNat_natCast] at hk
  have e256 : (2 : Int) ^ 256 = 2 * 2 ^ 255 := two_pow_succ 255
  have e255 : (2 : Int) ^ 255 = 2 * 2 ^ 254 := two_pow_succ 254
  have p254 : (0 : Int) < 2 ^ 254 := Int.pow_pos (by decide)
  have q1 := pow_le2 (a := 256 - a) (b := 255) (by omega)
  have q2 := pow_le2 (a := 256 - c) (b := 255) (by omega)
  have ha1 : a = 1 := by
    apply Classical.byContradiction
    intro hne
    have := pow_le2 (a := 256 - a) (b := 254) (by omega)
    omega
  have hc1 : c = 1 := by
    apply Classical.byContradiction
    intro hne
    have := pow_le2 (a := 256 - c) (b := 254) (by omega)
    omega
  subst ha1
  subst hc1
  have hz : ∀ i, i < 256 → i ≠ v → R.getD i 0 = 0 := fun i hi e => h.ok.zero i hi (by rw [hr i hi e]; decide)
  have h16 : ∀ i, i ≤ 256 → R.getD i 0 ≤ 16 := fun i hi => by
    by_cases e1 : i = 256
    · rw [e1, hc]; decide
    · by_cases e2 : i = v
      · rw [e2, ha]; decide
      · rw [hz i (by omega) e2]; decide
  have hys : ys = [v] := by
    have hp : ys.Perm [v] := (List.perm_ext_iff_of_nodup h.nd (by simp)).2 fun u => by
      rw [h.vals]
      constructor
      · rintro ⟨v1, v2⟩
        by_cases e : u = v
        · simp [e]
        · rw [hz u v1 e] at v2; exact absurd v2 (by decide)
      · intro hu
        simp at hu
        subst hu
        exact ⟨hv, by rw [ha]; decide⟩
    exact List.perm_singleton.1 hp
  have n0 := h.le h16 hv (by rw [ha]; decide)
  have m0 := (h.has hv).2 (by rw [ha]; decide)
  rw [ha] at n0
  have hn0 : lenN cn ys v = 1 := by omega
  have g0 := h.head (v := v) (k := 0) hn0
  have hs := h.sum
  have h2 := getD_le_sum cn 0
  have hl : ys.length = 1 := by rw [hys]; rfl
  refine ⟨by omega, hys, fun r hcr => ?_⟩
  rw [(h.cost_nn hn hcr).1, sm_only (u := v) 256 (fun i hi e => by rw [hr i hi e, Int.zero_mul]), if_pos hv, h0, hn0]; simp
/-- all alike -/
theorem all_tab (h : TabOk ws R cn ys) {x : Int} (hx : 1 < x) (h0 : ∀ i, i < 256 → ws.getD i 0 = x) : ∀ i, i < 256 → lenN cn ys i = 8 ∨ lenN cn ys i = 9 := by
  have hk := h.ok.krf
  have hp : ∀ i, i < 256 → 0 < ws.getD i 0 := fun i hi => by rw [h0 i hi]; omega
  rw [sm_congr (g := fun i => 2 ^ (256 - (R.getD i 0).toNat)) (fun i hi => if_pos (hp i hi))] at hk
  obtain ⟨M, hM⟩ : ∃ M : Nat, R.getD 256 0 = M := ⟨(R.getD 256 0).toNat, by have := (h.ok.nn 256).1; omega⟩
  have hM1 : 1 ≤ M := by have := (h.ok.pos 0 (by decide) (hp 0 (by decide))).2; omega
  have hM2 : M ≤ 256 := by have := (h.ok.nn 256).2; omega
  have hlow : ∀ i, i < 256 → 1 ≤ R.getD i 0 ∧ R.getD i 0 ≤ M := fun i hi => ⟨(h.ok.pos i hi (hp i hi)).1, by
    rw [← hM]; exact h.ok.low i hi (by rw [h0 i hi]; exact hx)⟩
  have hnear : ∀ i j, i < 256 → j < 256 → R.getD i 0 ≤ R.getD j 0 + 1 := fun i j hi hj => h.ok.near i j hi hj (hp j hj) (by rw [h0 i hi, h0 j hj]; exact Int.le_refl _)
  rw [hM, Int.toNat_natCast] at hk
  have pM : (0 : Int) < 2 ^ (256 - M) := Int.pow_pos (by decide)
  -- one of them is the longest
  have hex : ∃ i, i < 256 ∧ R.getD i 0 = M := by
    apply Classical.byContradiction
    intro hno
    have hd : ∀ m, m ≤ 256 → (2 : Int) ^ (257 - M) ∣ sm (fun i => 2 ^ (256 - (R.getD i 0).toNat)) m := fun m => by
      induction m with
      | zero => intro _; simp [sm]
      | succ m ih =>
        intro hm
        rw [sm]
        refine Int.dvd_add (ih (by omega)) (two_dvd _ _ ?_)
        have := hlow m (by omega)
        have : R.getD m 0 ≠ M := fun e => hno ⟨m, by omega, e⟩
        omega
    have h1 : (2 : Int) ^ (257 - M) ∣ 2 ^ (256 - M) := by
      have e : (2 : Int) ^ (256 - M) = 2 ^ 256 - sm (fun i => 2 ^ (256 - (R.getD i 0).toNat)) 256 := by rw [← hk]; exact (Int.add_sub_cancel _ _).symm
      rw [e]
      exact Int.dvd_sub (two_dvd _ _ (by omega)) (hd 256 (Nat.le_refl _))
    have hle := Int.le_of_dvd pM h1
    have e : (2 : Int) ^ (257 - M) = 2 * 2 ^ (256 - M) := by rw [show 257 - M = 256 - M + 1 by omega]; exact two_pow_succ _
    omega
  obtain ⟨i0, hi0, hr0⟩ := hex
  have htwo : ∀ i, i < 256 → R.getD i 0 = M ∨ R.getD i 0 = (M : Int) - 1 := fun i hi => by
    have := hnear i0 i hi0 hi
    have := hlow i hi
    omega
  -- how many are one shorter
  obtain ⟨q, hq⟩ : ∃ q : Int, q = sm (fun i => if R.getD i 0 = M then 0 else 1) 256 := ⟨_, rfl⟩
  have hq0 : 0 ≤ q := by rw [hq]; exact sm_nonneg fun i _ => by split <;> decide
  have hq1 : q ≤ 256 := by
    rw [hq]
    have := sm_le (f := fun i => if R.getD i 0 = M then (0 : Int) else 1) (g := fun _ => 1) (n := 256) fun i _ => by split <;> decide
    have e : sm (fun _ => 1) 256 = 256 := by decide +kernel
    omega
  have hsum : sm (fun i => (2 : Int) ^ (256 - (R.getD i 0).toNat)) 256 = 2 ^ (256 - M) * (256 + q) := by
    rw [sm_congr (g := fun i => 2 ^ (256 - M) * (1 + if R.getD i 0 = M then 0 else 1)) fun i hi => ?_, sm_mul, sm_add, ← hq]
    · have e : sm (fun _ => 1) 256 = 256 := by decide +kernel
      rw [e]
    · rcases htwo i hi with e | e
      · rw [if_pos e, e, Int.toNat_natCast]; simp
      · have := hlow i hi
        rw [if_neg (by omega), e, show ((M : Int) - 1).toNat = M - 1 by omega, show 256 - (M - 1) = 256 - M + 1 by omega, two_pow_succ, Int.mul_comm]; rfl
  rw [hsum] at hk
  have hk2 : 257 + q = 2 ^ M := by
    have e : (2 : Int) ^ 256 = 2 ^ (256 - M) * 2 ^ M := by rw [← Int.pow_add, show 256 - M + M = 256 by omega]
    rw [e] at hk
    refine Int.eq_of_mul_eq_mul_left (Int.ne_of_gt pM) ?_
    rw [← hk, show 257 + q = 1 + (256 + q) by omega, Int.mul_add, Int.mul_one]
  have hM9 : M = 9 := by
    apply Classical.byContradiction
    intro hne
    rcases Nat.lt_or_gt_of_ne hne with hlt | hgt
    · have := pow_le2 (a := M) (b := 8) (by omega)
      have e : (2 : Int) ^ 8 = 256 := by decide
      omega
    · have := pow_le2 (a := 10) (b := M) (by omega)
      have e : (2 : Int) ^ 10 = 1024 := by decide
      omega
  subst hM9
  have h16 : ∀ i, i ≤ 256 → R.getD i 0 ≤ 16 := fun i hi => by
    by_cases e : i = 256
    · rw [e, hM]; decide
    · have := (hlow i (by omega)).2; omega
  intro i hi
  have hne := (h.has hi).2 (by have := (hlow i hi).1; omega)
  obtain ⟨j, hj, hr⟩ := h.of h16 hne
  by_cases e : j = 256
  · rw [e, hM] at hr; omega
  · rcases htwo j (by omega) with e | e <;> omega
/-- none -/
theorem none_tab (h : TabOk ws R cn ys) (h0 : ∀ i, i < 256 → ws.getD i 0 = 0) : ys = [] := by
  cases hy : ys with
  | nil => rfl
  | cons v t =>
    exfalso
    have hv : v ∈ ys := by rw [hy]; simp
    obtain ⟨v1, v2⟩ := (h.vals v).1 hv
    rw [h.ok.zero v v1 (by rw [h0 v v1]; decide)] at v2
    exact absurd v2 (by decide)
end
end Go.Proofs.Ytdkgficmodcolaa
