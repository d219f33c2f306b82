/- What down and up keep: a heap stays one, the elements stay the same; the first is the least: in plain lists. -/
import Derived.Test.YtdkgficmodcolaaHeap
namespace Go.Proofs.Ytdkgficmodcolaa
open Go.RowKit

theorem lessK_irr (a : Int × Int) : lessK a a = false := by simp [lessK]
theorem lessK_asymm {a b : Int × Int} (h : lessK a b = true) : lessK b a = false := by
  unfold lessK at h ⊢
  simp only [Bool.or_eq_true, Bool.and_eq_true, decide_eq_true_eq, Bool.or_eq_false_iff, Bool.and_eq_false_iff, decide_eq_false_iff_not] at h ⊢
  omega
theorem notless_trans {a b c : Int × Int} (h1 : lessK a b = false) (h2 : lessK b c = false) : lessK a c = false := by
  unfold lessK at h1 h2 ⊢
  simp only [Bool.or_eq_false_iff, Bool.and_eq_false_iff, decide_eq_false_iff_not] at h1 h2 ⊢
  omega
def par (j : Nat) : Nat := (j - 1) / 2
/-- at each place below n whose parent is lo or behind: not less than its parent -/
def HeapFrom (key : Nat → Int × Int) (lo n : Nat) (ps : List Nat) : Prop := ∀ j, 1 ≤ j → j < n → lo ≤ par j → lessK (key (ps.getD j 0)) (key (ps.getD (par j) 0)) = false
theorem swapL_getD (ps : List Nat) (i j k : Nat) (hi : i < ps.length) (hj : j < ps.length) (hij : i ≠ j) : (swapL ps i j).getD k 0 = if k = j then ps.getD i 0 else if k = i then ps.getD j 0 else ps.getD k 0 := by
  unfold swapL
  rw [List.getD_eq_getElem?_getD, List.getElem?_set]
  by_cases h1 : k = j
  · subst h1
    rw [if_pos rfl, if_pos (by simpa using hj), if_pos rfl]; rfl
  · rw [if_neg (fun e => h1 e.symm), if_neg h1, List.getElem?_set]
    by_cases h2 : k = i
    · subst h2
      rw [if_pos rfl, if_pos hi, if_pos rfl]; rfl
    · rw [if_neg (fun e => h2 e.symm), if_neg h2, ← List.getD_eq_getElem?_getD]
theorem swapL_perm (ps : List Nat) (i j : Nat) (hi : i < ps.length) (hj : j < ps.length) : (swapL ps i j).Perm ps := by
  by_cases hij : i = j
  · subst hij
    unfold swapL
    have : ps.set i (ps.getD i 0) = ps := by
      apply List.ext_getElem?
      intro k
      rw [List.getElem?_set]
      by_cases e : i = k
      · subst e
        rw [if_pos rfl, if_pos hi, getD_some hi]
      · rw [if_neg e]
    rw [this, this]
  · rw [List.perm_iff_count]
    intro x
    obtain ⟨a, ha⟩ : ∃ a, a = ps.getD i 0 := ⟨_, rfl⟩
    obtain ⟨b, hb⟩ : ∃ b, b = ps.getD j 0 := ⟨_, rfl⟩
    have e2 : ps[i] = a := by rw [ha, List.getD_eq_getElem?_getD, List.getElem?_eq_getElem hi]; rfl
    have e3 : ps[j] = b := by rw [hb, List.getD_eq_getElem?_getD, List.getElem?_eq_getElem hj]; rfl
    have hj' : j < (ps.set i b).length := by simpa using hj
    have e1 : (ps.set i b)[j] = b := by rw [List.getElem_set_ne hij]; exact e3
    have hci : 0 < ps.count a := List.count_pos_iff.2 (e2 ▸ List.getElem_mem hi)
    unfold swapL
    rw [← ha, ← hb, List.count_set hj', e1, List.count_set hi, e2]
    by_cases hx : a = x <;> by_cases hy : b = x
    · subst hx; subst hy; simp; omega
    · subst hx; simp [hy]; omega
    · subst hy; simp [hx]
    · simp [hx, hy]
theorem HeapFrom.of_down {key : Nat → Int × Int} {n : Nat} : ∀ (f : Nat) (ps : List Nat) (lo i : Nat), n ≤ ps.length → i < ps.length → lo ≤ i → n ≤ i + f →
    (∀ j, 1 ≤ j → j < n → lo ≤ par j → par j ≠ i → lessK (key (ps.getD j 0)) (key (ps.getD (par j) 0)) = false) →
    (lo < i → lo ≤ par i → ∀ j, 1 ≤ j → j < n → par j = i → lessK (key (ps.getD j 0)) (key (ps.getD (par i) 0)) = false) →
    (lo < i → i < n) → HeapFrom key lo n (downS key n f ps i)
  | 0, ps, lo, i, hn, hi, hlo, hf, h1, h2, h3 => by
    intro j hj1 hjn hlp
    unfold downS
    exact h1 j hj1 hjn hlp (by unfold par; omega)
  | f + 1, ps, lo, i, hn, hi, hlo, hf, h1, h2, h3 => by
    unfold downS
    split
    · rename_i hend
      intro j hj1 hjn hlp
      exact h1 j hj1 hjn hlp (by unfold par; omega)
    · rename_i hend
      obtain ⟨c, hc⟩ : ∃ c, c = downJ key n ps i := ⟨_, rfl⟩
      have hcc : (c = 2 * i + 1 ∨ c = 2 * i + 2) ∧ c < n := by
        rw [hc]; unfold downJ; split <;> omega
      have hmin : ∀ j, 1 ≤ j → j < n → par j = i → lessK (key (ps.getD j 0)) (key (ps.getD c 0)) = false := by
        intro j hj1 hjn hp
        have hjj : j = 2 * i + 1 ∨ j = 2 * i + 2 := by unfold par at hp; omega
        rw [hc]
        unfold downJ
        split
        · rename_i hif
          rcases hjj with rfl | rfl
          · exact lessK_asymm hif.2
          · exact lessK_irr _
        · rename_i hif
          rcases hjj with rfl | rfl
          · exact lessK_irr _
          · cases hl : lessK (key (ps.getD (2 * i + 2) 0)) (key (ps.getD (2 * i + 1) 0)) with
            | false => rfl
            | true => exact absurd ⟨hjn, hl⟩ hif
      rw [← hc]
      split
      · rename_i hless
        have hci : c ≠ i := by omega
        have hcl : c < ps.length := by omega
        have hg := fun k => swapL_getD ps i c k hi hcl (fun e => hci e.symm)
        refine HeapFrom.of_down f (swapL ps i c) lo c (by rw [swapL_length]; exact hn) (by rw [swapL_length]; exact hcl) (by omega) (by omega) ?_ ?_ (fun _ => hcc.2)
        · intro j hj1 hjn hlp hpc
          rw [hg, hg]
          by_cases hjc : j = c
          · subst hjc
            have hpi : par j = i := by unfold par; omega
            rw [if_pos rfl, hpi, if_neg (by omega), if_pos rfl]
            exact lessK_asymm hless
          · rw [if_neg hjc, if_neg hpc]
            by_cases hji : j = i
            · subst hji
              have hpj : par j ≠ j := by unfold par; omega
              rw [if_pos rfl, if_neg hpj]
              exact h2 (by unfold par at hlp; omega) hlp c (by omega) hcc.2 (by unfold par; omega)
            · rw [if_neg hji]
              by_cases hpi : par j = i
              · rw [if_pos hpi]
                exact hmin j hj1 hjn hpi
              · rw [if_neg hpi]
                exact h1 j hj1 hjn hlp hpi
        · intro _ _ j hj1 hjn hp
          have hpc : par c = i := by unfold par; omega
          have hjc : j ≠ c := by unfold par at hp; omega
          have hji : j ≠ i := by unfold par at hp; omega
          rw [hpc, hg, hg, if_neg hjc, if_neg hji, if_neg (by omega), if_pos rfl]
          have := h1 j hj1 hjn (by rw [hp]; omega) (by rw [hp]; exact hci)
          rwa [hp] at this
      · rename_i hless
        have hl : lessK (key (ps.getD c 0)) (key (ps.getD i 0)) = false := by simpa using hless
        intro j hj1 hjn hlp
        by_cases hpi : par j = i
        · rw [hpi]
          exact notless_trans (hmin j hj1 hjn hpi) hl
        · exact h1 j hj1 hjn hlp hpi
theorem downJ_lt (key : Nat → Int × Int) (n : Nat) (ps : List Nat) (i : Nat) (h : ¬ n ≤ 2 * i + 1) : downJ key n ps i < n ∧ downJ key n ps i ≠ i := by
  unfold downJ; split <;> omega
theorem downS_perm (key : Nat → Int × Int) (n : Nat) : ∀ (f : Nat) (ps : List Nat) (i : Nat), n ≤ ps.length → i < ps.length → (downS key n f ps i).Perm ps
  | 0, _, _, _, _ => List.Perm.refl _
  | f + 1, ps, i, hn, hi => by
    unfold downS
    split
    · exact List.Perm.refl _
    · rename_i h
      have hj := (downJ_lt key n ps i h).1
      split
      · exact (downS_perm key n f _ _ (by rw [swapL_length]; exact hn) (by rw [swapL_length]; omega)).trans (swapL_perm ps i _ hi (by omega))
      · exact List.Perm.refl _
theorem downS_far (key : Nat → Int × Int) (n : Nat) : ∀ (f : Nat) (ps : List Nat) (i k : Nat), n ≤ ps.length → i < ps.length → n ≤ k → (downS key n f ps i).getD k 0 = ps.getD k 0
  | 0, _, _, _, _, _, _ => rfl
  | f + 1, ps, i, k, hn, hi, hk => by
    unfold downS
    split
    · rfl
    · rename_i h
      obtain ⟨hj, hne⟩ := downJ_lt key n ps i h
      split
      · rw [downS_far key n f _ _ k (by rw [swapL_length]; exact hn) (by rw [swapL_length]; omega) hk, swapL_getD ps i _ k hi (by omega) (fun e => hne e.symm), if_neg (by omega), if_neg (by omega)]
      · rfl
theorem upS_perm (key : Nat → Int × Int) : ∀ (f : Nat) (ps : List Nat) (j : Nat), j < ps.length → (upS key f ps j).Perm ps
  | 0, _, _, _ => List.Perm.refl _
  | f + 1, ps, j, hj => by
    unfold upS
    split
    · exact List.Perm.refl _
    · split
      · exact (upS_perm key f _ _ (by rw [swapL_length]; omega)).trans (swapL_perm ps _ j (by omega) hj)
      · exact List.Perm.refl _
theorem HeapFrom.of_up {key : Nat → Int × Int} {n : Nat} : ∀ (f : Nat) (ps : List Nat) (j : Nat), n = ps.length → j < n → j < f →
    (∀ k, 1 ≤ k → k < n → k ≠ j → lessK (key (ps.getD k 0)) (key (ps.getD (par k) 0)) = false) →
    (1 ≤ j → ∀ k, 1 ≤ k → k < n → par k = j → lessK (key (ps.getD k 0)) (key (ps.getD (par j) 0)) = false) → HeapFrom key 0 n (upS key f ps j)
  | 0, _, _, _, _, hf, _, _ => absurd hf (by omega)
  | f + 1, ps, j, hn, hj, hf, h1, h2 => by
    unfold upS
    split
    · rename_i h0
      intro k hk1 hkn _
      exact h1 k hk1 hkn (by omega)
    · rename_i h0
      obtain ⟨i, hi⟩ : ∃ i, i = par j := ⟨_, rfl⟩
      rw [show (j - 1) / 2 = i from hi.symm]
      have hij : i < j := by rw [hi]; unfold par; omega
      split
      · rename_i hless
        have hg := fun k => swapL_getD ps i j k (by omega) (by omega) (by omega)
        have hasym := lessK_asymm hless
        refine HeapFrom.of_up f (swapL ps i j) i (by rw [swapL_length]; exact hn) (by omega) (by omega) ?_ ?_
        · intro k hk1 hkn hki
          have hpk : par k < k := by unfold par; omega
          rw [hg, hg]
          by_cases hkj : k = j
          · subst hkj
            rw [if_pos rfl, ← hi, if_neg (by omega), if_pos rfl]
            exact hasym
          · rw [if_neg hkj, if_neg hki]
            by_cases hpj : par k = j
            · rw [if_pos hpj]
              have := h2 (by omega) k hk1 hkn hpj
              rwa [← hi] at this
            · rw [if_neg hpj]
              by_cases hpi : par k = i
              · rw [if_pos hpi]
                have := h1 k hk1 hkn hkj
                rw [hpi] at this
                exact notless_trans this hasym
              · rw [if_neg hpi]
                exact h1 k hk1 hkn hkj
        · intro hi1 k hk1 hkn hpk
          have hpi : par i < i := by unfold par; omega
          have hok := h1 i hi1 (by omega) (by omega)
          rw [hg, hg, if_neg (by omega : ¬ par i = j), if_neg (by omega : ¬ par i = i)]
          by_cases hkj : k = j
          · rw [if_pos hkj]; exact hok
          · have hki : k ≠ i := by intro e; rw [e] at hpk; omega
            rw [if_neg hkj, if_neg hki]
            have := h1 k hk1 hkn hkj
            rw [hpk] at this
            exact notless_trans this hok
      · rename_i hless
        have hl : lessK (key (ps.getD j 0)) (key (ps.getD i 0)) = false := by simpa using hless
        intro k hk1 hkn _
        by_cases hkj : k = j
        · subst hkj; rw [← hi]; exact hl
        · exact h1 k hk1 hkn hkj
theorem HeapFrom.init {key : Nat → Int × Int} {n : Nat} : ∀ (k : Nat) (ps : List Nat), n = ps.length → k ≤ n → HeapFrom key k n ps → HeapFrom key 0 n (initS key n k ps)
  | 0, _, _, _, h => h
  | k + 1, ps, hn, hk, h => by
    rw [initS]
    refine HeapFrom.init k _ (by rw [downS_length]; exact hn) (by omega) ?_
    exact HeapFrom.of_down n ps k k (by omega) (by omega) (Nat.le_refl _) (by omega) (fun j hj1 hjn hlp hne => h j hj1 hjn (by omega)) (fun h => absurd h (by omega)) (fun h => absurd h (by omega))
theorem initS_perm (key : Nat → Int × Int) (n : Nat) : ∀ (k : Nat) (ps : List Nat), n = ps.length → k ≤ n → (initS key n k ps).Perm ps
  | 0, _, _, _ => List.Perm.refl _
  | k + 1, ps, hn, hk => by
    rw [initS]
    exact (initS_perm key n k _ (by rw [downS_length]; exact hn) (by omega)).trans (downS_perm key n n ps k (by omega) (by omega))
theorem heap_init (key : Nat → Int × Int) (ps : List Nat) : HeapFrom key 0 ps.length (initS key ps.length (ps.length / 2) ps) :=
  HeapFrom.init _ _ rfl (by omega) (fun j hj1 hjn hlp => by unfold par at hlp; omega)
theorem heap_least {key : Nat → Int × Int} {n : Nat} {ps : List Nat} (h : HeapFrom key 0 n ps) : ∀ (m j : Nat), j ≤ m → j < n → lessK (key (ps.getD j 0)) (key (ps.getD 0 0)) = false
  | 0, j, hj, _ => by obtain rfl : j = 0 := by omega
                      exact lessK_irr _
  | m + 1, j, hj, hn => by
    by_cases h0 : j = 0
    · subst h0; exact lessK_irr _
    · have hp : par j < j := by unfold par; omega
      exact notless_trans (h j (by omega) hn (by omega)) (heap_least h m (par j) (by omega) (by omega))
theorem heap_pop {key : Nat → Int × Int} {ps : List Nat} (h : HeapFrom key 0 ps.length ps) (h1 : 1 ≤ ps.length) :
    (popS key ps).getD (ps.length - 1) 0 = ps.getD 0 0 ∧ HeapFrom key 0 ((popS key ps).take (ps.length - 1)).length ((popS key ps).take (ps.length - 1)) ∧ ((popS key ps).take (ps.length - 1) ++ [ps.getD 0 0]).Perm ps := by
  obtain ⟨n, hn⟩ : ∃ n, ps.length = n + 1 := ⟨ps.length - 1, by omega⟩
  have hn1 : ps.length - 1 = n := by omega
  have hpl := popS_length key ps
  have hlast : (popS key ps).getD n 0 = ps.getD 0 0 := by
    unfold popS
    rw [hn1, downS_far key n n _ 0 n (by rw [swapL_length]; omega) (by rw [swapL_length]; omega) (Nat.le_refl _)]
    by_cases e : n = 0
    · subst e
      unfold swapL
      cases ps with
      | nil => simp at hn
      | cons a t => simp
    · rw [swapL_getD ps 0 n n (by omega) (by omega) (by omega), if_pos rfl]
  have hheap : HeapFrom key 0 n (popS key ps) := by
    unfold popS
    rw [hn1]
    refine HeapFrom.of_down n (swapL ps 0 n) 0 0 (by rw [swapL_length]; omega) (by rw [swapL_length]; omega) (Nat.le_refl _) (by omega) (fun j hj1 hjn _ hne => ?_) (fun h => absurd h (by omega)) (fun h => absurd h (by omega))
    have hp : par j < j := by unfold par; omega
    rw [swapL_getD ps 0 n j (by omega) (by omega) (by omega), swapL_getD ps 0 n (par j) (by omega) (by omega) (by omega), if_neg (by omega), if_neg (by omega), if_neg (by omega), if_neg hne]
    exact h j hj1 (by omega) (by omega)
  have hperm : (popS key ps).Perm ps := by
    unfold popS
    rw [hn1]
    exact (downS_perm key n n _ 0 (by rw [swapL_length]; omega) (by rw [swapL_length]; omega)).trans (swapL_perm ps 0 n (by omega) (by omega))
  rw [hn1]
  refine ⟨hlast, ?_, ?_⟩
  · have hl : ((popS key ps).take n).length = n := by rw [List.length_take]; omega
    rw [hl]
    intro j hj1 hjn hlp
    have hp : par j < j := by unfold par; omega
    have e : ∀ k, k < n → ((popS key ps).take n).getD k 0 = (popS key ps).getD k 0 := fun k hk => by
      rw [List.getD_eq_getElem?_getD, List.getElem?_take, if_pos hk, ← List.getD_eq_getElem?_getD]
    rw [e j hjn, e (par j) (by omega)]
    exact hheap j hj1 hjn hlp
  · have := popS_last key ps h1
    rw [hn1, hlast] at this
    rw [← this]
    exact hperm
theorem heap_push {key : Nat → Int × Int} {ps : List Nat} (g : Nat) (h : HeapFrom key 0 ps.length ps) : HeapFrom key 0 (pushS key ps g).length (pushS key ps g) ∧ (pushS key ps g).Perm (ps ++ [g]) := by
  have hl : (ps ++ [g]).length = ps.length + 1 := by simp
  unfold pushS
  refine ⟨?_, upS_perm key _ _ _ (by omega)⟩
  rw [upS_length, hl]
  refine HeapFrom.of_up _ _ _ hl.symm (by omega) (by omega) (fun k hk1 hkn hne => ?_) (fun h1 k hk1 hkn hp => by unfold par at hp; omega)
  have hp : par k < k := by unfold par; omega
  have e : ∀ m, m < ps.length → (ps ++ [g]).getD m 0 = ps.getD m 0 := fun m hm => by
    rw [List.getD_eq_getElem?_getD, List.getElem?_append_left hm, ← List.getD_eq_getElem?_getD]
  rw [e k (by omega), e (par k) (by omega)]
  exact h k hk1 (by omega) (by omega)
end Go.Proofs.Ytdkgficmodcolaa
