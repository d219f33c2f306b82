/- Sizes over the 256 weights: who comes has one; in order, full, of the least cost. -/
import Derived.Test.YtdkgficmodcolaaDepth
namespace Go.Proofs.Ytdkgficmodcolaa

/-- a sum over the first numbers -/
def sm (f : Nat → Int) : Nat → Int
  | 0 => 0
  | n + 1 => sm f n + f n
theorem sm_congr {f g : Nat → Int} : ∀ {n : Nat}, (∀ i, i < n → f i = g i) → sm f n = sm g n
  | 0, _ => rfl
  | n + 1, h => by rw [sm, sm, sm_congr (n := n) fun i hi => h i (by omega), h n (by omega)]
theorem sm_le {f g : Nat → Int} : ∀ {n : Nat}, (∀ i, i < n → f i ≤ g i) → sm f n ≤ sm g n
  | 0, _ => Int.le_refl _
  | n + 1, h => by
    have h1 := sm_le (n := n) fun i hi => h i (by omega)
    have h2 := h n (by omega)
    simp only [sm]; omega
theorem sm_zero {f : Nat → Int} : ∀ {n : Nat}, (∀ i, i < n → f i = 0) → sm f n = 0
  | 0, _ => rfl
  | n + 1, h => by rw [sm, sm_zero (n := n) fun i hi => h i (by omega), h n (by omega)]; rfl
theorem sm_nonneg {f : Nat → Int} {n : Nat} (h : ∀ i, i < n → 0 ≤ f i) : 0 ≤ sm f n := by
  have := sm_le (f := fun _ => 0) (g := f) (n := n) h
  rwa [sm_zero (fun _ _ => rfl)] at this
abbrev lf256 : Lf := ((256, 1), [256])
abbrev lfAt (ws : List Int) (v : Nat) : Lf := (((v : Int), ws.getD v 0), [(v : Int)])
theorem leaves_mem {ws : List Int} {k : Nat} {x : Lf} : x ∈ leavesT ws k ↔ x = lf256 ∨ ∃ v, v < k ∧ 0 < ws.getD v 0 ∧ x = lfAt ws v := by
  unfold leavesT
  simp only [List.mem_cons, List.mem_map, List.mem_filter, List.mem_range, decide_eq_true_eq]
  constructor
  · rintro (h | ⟨v, ⟨h1, h2⟩, h3⟩)
    · exact .inl h
    · exact .inr ⟨v, h1, h2, h3.symm⟩
  · rintro (h | ⟨v, h1, h2, h3⟩)
    · exact .inl h
    · exact .inr ⟨v, ⟨h1, h2⟩, h3.symm⟩
theorem leaves_flat (ws : List Int) (k : Nat) : (leavesT ws k).flatMap (·.2) = 256 :: ((List.range k).filter fun v => decide (0 < ws.getD v 0)).map fun (v : Nat) => (v : Int) := by
  unfold leavesT
  rw [List.flatMap_cons, List.flatMap_map]
  have : ∀ l : List Nat, List.flatMap (fun a : Nat => [(a : Int)]) l = l.map fun (v : Nat) => (v : Int) := fun l => by
    induction l with
    | nil => rfl
    | cons x t ih => rw [List.flatMap_cons, List.map_cons, ih]; rfl
  rw [this]; rfl
theorem leaves_nice (ws : List Int) (k : Nat) (hk : k ≤ 256) : Nice (leavesT ws k) 257 := by
  refine ⟨?_, ?_, ?_, ?_⟩
  · rw [leaves_flat]
    refine List.nodup_cons.2 ⟨fun h => ?_, ?_⟩
    · obtain ⟨v, hv, e⟩ := List.mem_map.1 h
      have := (List.mem_filter.1 hv).1
      have := List.mem_range.1 this
      omega
    · refine List.Pairwise.map _ (fun a b h => ?_) ((List.nodup_range (n := k)).filter _)
      omega
  · intro x hx
    rcases leaves_mem.1 hx with rfl | ⟨v, _, _, rfl⟩ <;> simp
  · intro x hx
    rcases leaves_mem.1 hx with rfl | ⟨v, _, h, rfl⟩
    · decide
    · exact h
  · intro x hx u hu
    rcases leaves_mem.1 hx with rfl | ⟨v, h1, h, rfl⟩
    · simp at hu; subst hu; decide
    · simp at hu; subst hu; constructor <;> omega
theorem kr_append (K : Nat) (p q : List (Int × Nat)) : kr K (p ++ q) = kr K p + kr K q := by
  induction p with
  | nil => simp [kr]
  | cons x t ih => simp only [List.cons_append, kr, ih]; omega
theorem cst_append (p q : List (Int × Nat)) : cst (p ++ q) = cst p + cst q := by
  induction p with
  | nil => simp [cst]
  | cons x t ih => simp only [List.cons_append, cst, ih]; omega
theorem kr_leaves (K : Nat) (d : Lf → Nat) (ws : List Int) : ∀ k, ((kr K (pw d (leavesT ws k)) : Nat) : Int) = 2 ^ (K - d lf256) + sm (fun i => if 0 < ws.getD i 0 then 2 ^ (K - d (lfAt ws i)) else 0) k
  | 0 => by simp [leavesT, pw, kr, sm]
  | k + 1 => by
    have ih := kr_leaves K d ws k
    rw [sm]
    by_cases h : 0 < ws.getD k 0
    · rw [leavesT_yes ws k h, if_pos h]
      have : pw d (leavesT ws k ++ [lfAt ws k]) = pw d (leavesT ws k) ++ [(ws.getD k 0, d (lfAt ws k))] := by simp [pw]
      rw [this, kr_append]
      simp only [kr, Int.natCast_add, ih, Int.natCast_pow]
      simp; omega
    · rw [leavesT_no ws k h, if_neg h, ih]; omega
theorem cst_leaves (d : Lf → Nat) (ws : List Int) : ∀ k, cst (pw d (leavesT ws k)) = d lf256 + sm (fun i => if 0 < ws.getD i 0 then ws.getD i 0 * d (lfAt ws i) else 0) k
  | 0 => by simp [leavesT, pw, cst, sm]
  | k + 1 => by
    have ih := cst_leaves d ws k
    rw [sm]
    by_cases h : 0 < ws.getD k 0
    · rw [leavesT_yes ws k h, if_pos h]
      have : pw d (leavesT ws k ++ [lfAt ws k]) = pw d (leavesT ws k) ++ [(ws.getD k 0, d (lfAt ws k))] := by simp [pw]
      rw [this, cst_append, ih]
      simp only [cst]
      omega
    · rw [leavesT_no ws k h, if_neg h, ih]; omega
structure SizesOk (ws R : List Int) : Prop where
  raw : SizesR (leavesT ws 256) (List.replicate 257 0) R
  len : R.length = 257
  nn : ∀ i, 0 ≤ R.getD i 0 ∧ R.getD i 0 ≤ 256
  zero : ∀ i, i < 256 → ¬ 0 < ws.getD i 0 → R.getD i 0 = 0
  pos : ∀ i, i < 256 → 0 < ws.getD i 0 → 1 ≤ R.getD i 0 ∧ 1 ≤ R.getD 256 0
  none_ : (∀ i, i < 256 → ¬ 0 < ws.getD i 0) → R.getD 256 0 = 0
  ord : ∀ i j, i < 256 → j < 256 → 0 < ws.getD j 0 → ws.getD j 0 < ws.getD i 0 → R.getD i 0 ≤ R.getD j 0
  near : ∀ i j, i < 256 → j < 256 → 0 < ws.getD j 0 → ws.getD j 0 ≤ ws.getD i 0 → R.getD i 0 ≤ R.getD j 0 + 1
  low : ∀ i, i < 256 → 1 < ws.getD i 0 → R.getD i 0 ≤ R.getD 256 0
  krf : (2 : Int) ^ (256 - (R.getD 256 0).toNat) + sm (fun i => if 0 < ws.getD i 0 then 2 ^ (256 - (R.getD i 0).toNat) else 0) 256 = 2 ^ 256
  opt : ∀ (N : Nat → Nat) (K : Nat), (∀ i, i ≤ 256 → N i ≤ K) → (2 : Int) ^ (K - N 256) + sm (fun i => if 0 < ws.getD i 0 then 2 ^ (K - N i) else 0) 256 ≤ 2 ^ K →
    R.getD 256 0 + sm (fun i => ws.getD i 0 * R.getD i 0) 256 ≤ N 256 + sm (fun i => ws.getD i 0 * (N i : Int)) 256
theorem sizes_ok {ws R : List Int} (hws : ∀ i, 0 ≤ ws.getD i 0) (h : SizesR (leavesT ws 256) (List.replicate 257 0) R) (hl : R.length = 257) : SizesOk ws R := by
  obtain ⟨d, hd⟩ := sizes_dep h (by rw [List.length_replicate]; exact leaves_nice ws 256 (Nat.le_refl _))
  have hz : ∀ i : Nat, (List.replicate 257 (0 : Int)).getD i 0 = 0 := fun i => by
    rw [List.getD_eq_getElem?_getD, List.getElem?_replicate]; split <;> rfl
  have m0 : lf256 ∈ leavesT ws 256 := leaves_mem.2 (.inl rfl)
  have mv : ∀ v, v < 256 → 0 < ws.getD v 0 → lfAt ws v ∈ leavesT ws 256 := fun v h1 h2 => leaves_mem.2 (.inr ⟨v, h1, h2, rfl⟩)
  have r0 : R.getD 256 0 = d lf256 := by
    have := hd.val lf256 m0 256 (by simp)
    rw [show (256 : Int).toNat = 256 from rfl, hz] at this
    rw [this]; omega
  have rv : ∀ v, v < 256 → 0 < ws.getD v 0 → R.getD v 0 = d (lfAt ws v) := fun v h1 h2 => by
    have := hd.val (lfAt ws v) (mv v h1 h2) v (by simp)
    rw [show ((v : Nat) : Int).toNat = v by omega, hz] at this
    rw [this]; omega
  have rn : ∀ v, v < 256 → ¬ 0 < ws.getD v 0 → R.getD v 0 = 0 := fun v h1 h2 => by
    rw [hd.off v, hz]
    intro x hx
    rcases leaves_mem.1 hx with rfl | ⟨u, h3, h4, rfl⟩
    · simp; omega
    · simp
      intro e
      have : v = u := by omega
      subst this
      exact h2 h4
  have hlen := leavesT_len ws 256
  have hdep : ∀ x ∈ leavesT ws 256, d x ≤ 256 := fun x hx => by
    have := hd.dep x hx
    omega
  have two : ∀ v, v < 256 → 0 < ws.getD v 0 → 2 ≤ (leavesT ws 256).length := fun v h1 h2 => by
    unfold leavesT
    rw [List.length_cons, List.length_map]
    have : 0 < ((List.range 256).filter fun v => decide (0 < ws.getD v 0)).length := List.length_pos_of_mem (a := v) (List.mem_filter.2 ⟨List.mem_range.2 h1, by simpa using h2⟩)
    omega
  have hkl : ∀ K, 256 ≤ K → kr K (pw d (leavesT ws 256)) = 2 ^ K := fun K hK => hd.krf (fun e => by rw [e] at m0; cases m0) K (by omega)
  refine ⟨h, hl, ?_, rn, ?_, ?_, ?_, ?_, ?_, ?_, ?_⟩
  · intro i
    by_cases hi : i < 256
    · by_cases hw : 0 < ws.getD i 0
      · rw [rv i hi hw]
        have := hdep _ (mv i hi hw)
        constructor <;> omega
      · rw [rn i hi hw]; omega
    · by_cases h6 : i = 256
      · subst h6
        rw [r0]
        have := hdep _ m0
        constructor <;> omega
      · rw [List.getD_eq_getElem?_getD, List.getElem?_eq_none (by omega)]; simp
  · intro i hi hw
    rw [rv i hi hw, r0]
    have h2 := two i hi hw
    have := hd.one h2 _ (mv i hi hw)
    have := hd.one h2 _ m0
    constructor <;> omega
  · intro hall
    rw [r0]
    have hl1 : (leavesT ws 256).length = 1 := by
      unfold leavesT
      rw [List.length_cons, List.length_map]
      have : ((List.range 256).filter fun v => decide (0 < ws.getD v 0)) = [] := by
        rw [List.filter_eq_nil_iff]
        intro v hv
        simpa using hall v (List.mem_range.1 hv)
      rw [this]; rfl
    have := hd.dep _ m0
    omega
  · intro i j hi hj hwj hlt
    rw [rv i hi (by omega), rv j hj hwj]
    have := hd.i1 _ (mv i hi (by omega)) _ (mv j hj hwj) hlt
    omega
  · intro i j hi hj hwj hle
    rw [rv i hi (by omega), rv j hj hwj]
    have := hd.i1' _ (mv i hi (by omega)) _ (mv j hj hwj) hle
    omega
  · intro i hi hw
    rw [rv i hi (by omega), r0]
    have := hd.i1 _ (mv i hi (by omega)) _ m0 hw
    omega
  · have h1 := kr_leaves 256 d ws 256
    rw [hkl 256 (Nat.le_refl _)] at h1
    rw [r0, Int.toNat_natCast, sm_congr (g := fun i => if 0 < ws.getD i 0 then 2 ^ (256 - d (lfAt ws i)) else 0)]
    · rw [← h1]; simp
    · intro i hi
      by_cases hw : 0 < ws.getD i 0
      · rw [if_pos hw, if_pos hw, rv i hi hw, Int.toNat_natCast]
      · rw [if_neg hw, if_neg hw]
  · intro N K hN hK
    have h1 := hd.opt K (pw (fun x => N (x.2.headD 0).toNat) (leavesT ws 256)) (by
      have : (pw (fun x => N (x.2.headD 0).toNat) (leavesT ws 256)).map (·.1) = (leavesT ws 256).map (·.1.2) := by simp [pw]
      rw [this]) (by
      intro x hx
      obtain ⟨y, hy, rfl⟩ := List.mem_map.1 hx
      rcases leaves_mem.1 hy with rfl | ⟨v, h3, h4, rfl⟩
      · exact hN 256 (by omega)
      · exact hN v (by omega)) (by
      apply Int.ofNat_le.1
      rw [kr_leaves]
      refine Int.le_trans (Int.le_of_eq ?_) (Int.le_trans hK (by simp))
      rfl)
    rw [cst_leaves, cst_leaves] at h1
    rw [r0]
    refine Int.le_trans (Int.le_of_eq ?_) (Int.le_trans h1 (Int.le_of_eq ?_))
    · refine congrArg (fun t => (d lf256 : Int) + t) (sm_congr (n := 256) fun i hi => ?_)
      by_cases hw : 0 < ws.getD i 0
      · rw [if_pos hw, rv i hi hw]
      · rw [if_neg hw, rn i hi hw, Int.mul_zero]
    · refine congrArg (fun t => (N 256 : Int) + t) (sm_congr (n := 256) fun i hi => ?_)
      by_cases hw : 0 < ws.getD i 0
      · rw [if_pos hw]; rfl
      · have h0 : ws.getD i 0 = 0 := by have := hws i; omega
        rw [if_neg hw, h0, Int.zero_mul]
theorem lessK_same {x y : Int × Int} (h1 : lessK x y = false) (h2 : lessK y x = false) : x = y := by
  unfold lessK at h1 h2
  simp only [Bool.or_eq_false_iff, Bool.and_eq_false_iff, decide_eq_false_iff_not] at h1 h2
  apply Prod.ext <;> omega
theorem num_same {l : List Lf} (hn : (l.map (·.1.1)).Nodup) : ∀ {x y : Lf}, x ∈ l → y ∈ l → x.1.1 = y.1.1 → x = y := by
  induction l with
  | nil => intro x y hx; cases hx
  | cons z t ih =>
    intro x y hx hy e
    rw [List.map_cons, List.nodup_cons] at hn
    rcases List.mem_cons.1 hx with rfl | hx' <;> rcases List.mem_cons.1 hy with rfl | hy'
    · rfl
    · exact absurd (List.mem_map.2 ⟨y, hy', e.symm⟩) hn.1
    · exact absurd (List.mem_map.2 ⟨x, hx', e⟩) hn.1
    · exact ih hn.2 hx' hy' e
/-- there is no choice: the numbers are distinct -/
theorem SizesR.unique {l : List Lf} {out R : List Int} (h : SizesR l out R) : ∀ {l2 : List Lf} {R2 : List Int}, l2.Perm l → (l.map (·.1.1)).Nodup → SizesR l2 out R2 → R = R2 := by
  induction h with
  | done hl =>
    intro l2 R2 hp _ h2
    cases h2 with
    | done _ => rfl
    | step hp2 _ _ _ =>
      have h1 := hp.length_eq
      have h2 := hp2.length_eq
      simp only [List.length_cons] at h2
      omega
  | @step l rest a b out R hp ha hb _ ih =>
    intro l2 R2 hpl hn h2
    cases h2 with
    | done hl =>
      have h1 := hp.length_eq
      have h2 := hpl.length_eq
      simp only [List.length_cons] at h1
      omega
    | @step _ rest' a' b' _ _ hp' ha' hb' h4 =>
      have hpp : (a' :: b' :: rest').Perm (a :: b :: rest) := hp'.symm.trans (hpl.trans hp)
      have hn2 : ((a :: b :: rest).map (·.1.1)).Nodup := ((hp.map _).nodup_iff).1 hn
      have hal : a ∈ l := hp.mem_iff.2 (by simp)
      have hal' : a' ∈ l := hpl.mem_iff.1 (hp'.mem_iff.2 (by simp))
      have e1 : a' = a := num_same hn hal' hal (by rw [lessK_same (ha a' hal') (ha' a (hpl.mem_iff.2 hal))])
      subst e1
      have hq := hpp.cons_inv
      have hn3 : ((b :: rest).map (·.1.1)).Nodup := by rw [List.map_cons, List.nodup_cons] at hn2; exact hn2.2
      have hbm : b' ∈ b :: rest := hq.mem_iff.1 (by simp)
      have hbm' : b ∈ b' :: rest' := hq.mem_iff.2 (by simp)
      have e2 : b' = b := num_same hn3 hbm (by simp) (by rw [lessK_same (hb b' hbm) (hb' b hbm')])
      subst e2
      refine ih (hq.cons_inv.cons _) ?_ h4
      simp only [List.map_cons, List.nodup_cons, List.mem_cons, not_or] at hn2 ⊢
      exact ⟨hn2.1.2, hn2.2.2⟩
theorem leaves_nums (ws : List Int) (k : Nat) (hk : k ≤ 256) : ((leavesT ws k).map (·.1.1)).Nodup := by
  have h := (leaves_nice ws k hk).nd
  rw [leaves_flat] at h
  unfold leavesT
  rw [List.map_cons, List.map_map]
  exact h
theorem SizesOk.same {ws R R2 : List Int} (h : SizesOk ws R) (h2 : SizesOk ws R2) : R = R2 := h.raw.unique (List.Perm.refl _) (leaves_nums ws 256 (Nat.le_refl _)) h2.raw
end Go.Proofs.Ytdkgficmodcolaa
