/- The least cost: two least weights may be joined: in plain lists. -/
namespace Go.Proofs.Ytdkgficmodcolaa

def kr (K : Nat) : List (Int × Nat) → Nat
  | [] => 0
  | x :: t => 2 ^ (K - x.2) + kr K t
def cst : List (Int × Nat) → Int
  | [] => 0
  | x :: t => x.1 * (x.2 : Int) + cst t
theorem kr_perm {K : Nat} {p q : List (Int × Nat)} (h : p.Perm q) : kr K p = kr K q := by
  induction h with
  | nil => rfl
  | cons x _ ih => simp only [kr, ih]
  | swap x y l => simp only [kr]; omega
  | trans _ _ h1 h2 => exact h1.trans h2
theorem cst_perm {p q : List (Int × Nat)} (h : p.Perm q) : cst p = cst q := by
  induction h with
  | nil => rfl
  | cons x _ ih => simp only [cst, ih]
  | swap x y l => simp only [cst]; omega
  | trans _ _ h1 h2 => exact h1.trans h2
theorem max_of : ∀ (q : List (Int × Nat)), q ≠ [] → ∃ x ∈ q, ∀ y ∈ q, y.2 ≤ x.2
  | [], h => absurd rfl h
  | [x], _ => ⟨x, by simp, by simp⟩
  | x :: y :: t, _ => by
    obtain ⟨z, hz, h⟩ := max_of (y :: t) (by simp)
    by_cases hx : z.2 ≤ x.2
    · exact ⟨x, by simp, fun u hu => by
        rcases List.mem_cons.1 hu with rfl | hu
        · exact Nat.le_refl _
        · exact Nat.le_trans (h u hu) hx⟩
    · exact ⟨z, List.mem_cons_of_mem _ hz, fun u hu => by
        rcases List.mem_cons.1 hu with rfl | hu
        · omega
        · exact h u hu⟩
/-- what is raised above all others, where it weighs least -/
theorem raise (K : Nat) (wb : Int) (Lb : Nat) (q : List (Int × Nat)) (hw : ∀ x ∈ q, wb ≤ x.1) :
    ∃ (L : Nat) (q' : List (Int × Nat)), (q'.map (·.1)).Perm (q.map (·.1)) ∧ (∀ x ∈ q', x.2 ≤ L) ∧ kr K ((wb, L) :: q') = kr K ((wb, Lb) :: q) ∧ cst ((wb, L) :: q') ≤ cst ((wb, Lb) :: q) ∧
      (∀ B, Lb ≤ B → (∀ x ∈ q, x.2 ≤ B) → L ≤ B) ∧ (∀ B, (∀ x ∈ q, x.2 ≤ B) → (∀ x ∈ q', x.2 ≤ B)) := by
  by_cases hall : ∀ x ∈ q, x.2 ≤ Lb
  · exact ⟨Lb, q, List.Perm.refl _, hall, rfl, Int.le_refl _, fun _ h _ => h, fun _ h => h⟩
  · have hne : q ≠ [] := fun e => hall (by rw [e]; simp)
    obtain ⟨x, hx, hm⟩ := max_of q hne
    have hlt : Lb < x.2 := by
      apply Nat.lt_of_not_le
      intro h
      exact hall fun y hy => Nat.le_trans (hm y hy) h
    obtain ⟨q1, q2, rfl⟩ := List.append_of_mem hx
    have hp : (q1 ++ x :: q2).Perm (x :: (q1 ++ q2)) := List.perm_middle
    refine ⟨x.2, (x.1, Lb) :: (q1 ++ q2), ?_, ?_, ?_, ?_, ?_, ?_⟩
    · have := (hp.map (·.1)).symm
      simpa using this
    · intro y hy
      rcases List.mem_cons.1 hy with rfl | hy
      · exact Nat.le_of_lt hlt
      · exact hm y (by simp at hy ⊢; rcases hy with h | h <;> simp [h])
    · have := kr_perm (K := K) hp
      simp only [kr] at this ⊢
      omega
    · have := cst_perm hp
      simp only [cst] at this ⊢
      rw [this]
      have hw' := hw x hx
      have : 0 ≤ (x.1 - wb) * ((x.2 : Int) - (Lb : Int)) := Int.mul_nonneg (by omega) (by omega)
      rw [Int.sub_mul, Int.mul_sub, Int.mul_sub] at this
      omega
    · intro B _ h
      exact h x hx
    · intro B h y hy
      rcases List.mem_cons.1 hy with rfl | hy
      · exact Nat.le_trans (Nat.le_of_lt hlt) (h x hx)
      · exact h y (by simp at hy ⊢; rcases hy with h | h <;> simp [h])
theorem kr_div (K m : Nat) (hm : m ≤ K) : ∀ q : List (Int × Nat), (∀ x ∈ q, x.2 ≤ m) → ∃ t, kr K q = 2 ^ (K - m) * t
  | [], _ => ⟨0, rfl⟩
  | x :: q, h => by
    obtain ⟨t, ht⟩ := kr_div K m hm q fun y hy => h y (by simp [hy])
    have hx : x.2 ≤ m := h x (by simp)
    refine ⟨2 ^ (m - x.2) + t, ?_⟩
    simp only [kr]
    rw [ht, Nat.mul_add, ← Nat.pow_add]
    congr 2
    omega
theorem join_low (K : Nat) (wa wb : Int) (La Lb : Nat) (q : List (Int × Nat)) (h0 : 0 ≤ wa) (hab : Lb ≤ La) (hK : La ≤ K) (hq : ∀ x ∈ q, x.2 ≤ Lb) (hkr : kr K ((wa, La) :: (wb, Lb) :: q) ≤ 2 ^ K) :
    kr K ((wa + wb, Lb - 1) :: q) ≤ 2 ^ K ∧ cst ((wa + wb, Lb - 1) :: q) + wa + wb ≤ cst ((wa, La) :: (wb, Lb) :: q) := by
  obtain ⟨t, ht⟩ := kr_div K Lb (by omega) q hq
  simp only [kr] at hkr ⊢
  rw [ht] at hkr ⊢
  have hD : 2 ^ K = 2 ^ (K - Lb) * 2 ^ Lb := by rw [← Nat.pow_add]; congr 1; omega
  rw [hD] at hkr
  have hp : 1 ≤ 2 ^ (K - La) := Nat.one_le_two_pow
  have hD1 : 1 ≤ 2 ^ (K - Lb) := Nat.one_le_two_pow
  have h1 : 2 ^ (K - Lb) * (1 + t) < 2 ^ (K - Lb) * 2 ^ Lb := by rw [Nat.mul_add]; omega
  have h2 : 1 + t < 2 ^ Lb := Nat.lt_of_mul_lt_mul_left h1
  have hb1 : 1 ≤ Lb := by
    rcases Nat.eq_zero_or_pos Lb with e | e
    · rw [e] at h2; simp at h2
    · exact e
  constructor
  · rw [hD]
    have e : 2 ^ (K - (Lb - 1)) = 2 ^ (K - Lb) * 2 := by rw [← Nat.pow_succ]; congr 1; omega
    rw [e, ← Nat.mul_add]
    exact Nat.mul_le_mul_left _ (by omega)
  · simp only [cst]
    have e : ((Lb - 1 : Nat) : Int) = (Lb : Int) - 1 := by omega
    rw [e, Int.mul_sub, Int.add_mul]
    have : wa * (Lb : Int) ≤ wa * (La : Int) := Int.mul_le_mul_of_nonneg_left (by omega) h0
    omega
theorem huff_join (K : Nat) (wa wb : Int) (La Lb : Nat) (q : List (Int × Nat)) (ha : ∀ x ∈ q, wa ≤ x.1) (hb : ∀ x ∈ q, wb ≤ x.1) (h0 : 0 ≤ wa) (h1 : 0 ≤ wb) (hLa : La ≤ K) (hLb : Lb ≤ K) (hK : ∀ x ∈ q, x.2 ≤ K)
    (hkr : kr K ((wa, La) :: (wb, Lb) :: q) ≤ 2 ^ K) :
    ∃ (L : Nat) (q' : List (Int × Nat)), (q'.map (·.1)).Perm (q.map (·.1)) ∧ L ≤ K ∧ (∀ x ∈ q', x.2 ≤ K) ∧ kr K ((wa + wb, L) :: q') ≤ 2 ^ K ∧ cst ((wa + wb, L) :: q') + wa + wb ≤ cst ((wa, La) :: (wb, Lb) :: q) := by
  obtain ⟨La', q1, p1, m1, k1, c1, b1, r1⟩ := raise K wa La q ha
  have hb1 : ∀ x ∈ q1, wb ≤ x.1 := fun x hx => by
    have : x.1 ∈ q1.map (·.1) := List.mem_map_of_mem hx
    obtain ⟨y, hy, e⟩ := List.mem_map.1 (p1.mem_iff.1 this)
    rw [← e]; exact hb y hy
  obtain ⟨Lb', q2, p2, m2, k2, c2, b2, r2⟩ := raise K wb Lb q1 hb1
  have hLa' : La' ≤ K := b1 K hLa hK
  have hK1 : ∀ x ∈ q1, x.2 ≤ K := r1 K hK
  have hLb' : Lb' ≤ K := b2 K hLb hK1
  have hK2 := r2 K hK1
  have m3 := r2 La' m1
  have hkr2 : kr K ((wa, La') :: (wb, Lb') :: q2) ≤ 2 ^ K := by simp only [kr] at *; omega
  have hc2 : cst ((wa, La') :: (wb, Lb') :: q2) ≤ cst ((wa, La) :: (wb, Lb) :: q) := by simp only [cst] at *; omega
  by_cases hab : Lb' ≤ La'
  · obtain ⟨x1, x2⟩ := join_low K wa wb La' Lb' q2 h0 hab hLa' m2 hkr2
    exact ⟨Lb' - 1, q2, p2.trans p1, by omega, hK2, x1, by omega⟩
  · have hs : kr K ((wb, Lb') :: (wa, La') :: q2) ≤ 2 ^ K := by simp only [kr] at *; omega
    obtain ⟨x1, x2⟩ := join_low K wb wa Lb' La' q2 h1 (by omega) hLb' m3 hs
    refine ⟨La' - 1, q2, p2.trans p1, by omega, hK2, by rw [Int.add_comm wa wb]; exact x1, ?_⟩
    rw [Int.add_comm wa wb]
    simp only [cst] at *
    omega
end Go.Proofs.Ytdkgficmodcolaa
