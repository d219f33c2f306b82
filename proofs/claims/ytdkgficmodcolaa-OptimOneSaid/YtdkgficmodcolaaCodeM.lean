/- Codes of a table whose sum is below one: the table may be; each value that comes has one; how long: in plain lists. -/
import Derived.Test.YtdkgficmodcolaaTabM
namespace Go.Proofs.Ytdkgficmodcolaa

def krC (i : Nat) : List Nat → Nat
  | [] => 0
  | c :: t => c * 2 ^ (16 - (i + 1)) + krC (i + 1) t
theorem laid_kr : ∀ (cn : List Nat) (i a b : Nat), i + cn.length ≤ 16 → ∀ e ∈ laidC cn i a b, (e.2.2 + 1) * 2 ^ (16 - e.2.1) ≤ b * 2 ^ (16 - i) + krC i cn
  | [], _, _, _, _, e, he => by cases he
  | c :: t, i, a, b, hl, e, he => by
    rw [List.length_cons] at hl
    have e1 : 2 ^ (16 - i) = 2 * 2 ^ (16 - (i + 1)) := by rw [Nat.mul_comm, ← Nat.pow_succ]; congr 1; omega
    have e2 : (2 * b + c) * 2 ^ (16 - (i + 1)) = b * (2 * 2 ^ (16 - (i + 1))) + c * 2 ^ (16 - (i + 1)) := by rw [Nat.add_mul, Nat.mul_comm 2 b, Nat.mul_assoc]
    rw [laidC] at he
    rw [krC, e1]
    rcases List.mem_append.1 he with he | he
    · obtain ⟨_, _, h3, _, h5⟩ := lev_mem he
      rw [h3]
      have := Nat.mul_le_mul_right (2 ^ (16 - (i + 1))) (by omega : e.2.2 + 1 ≤ 2 * b + c)
      omega
    · have := laid_kr t (i + 1) (a + c) (2 * b + c) (by omega) e he
      omega
theorem krC_lin : ∀ (cn : List Nat) (i : Nat), ((krC i cn : Nat) : Int) = lin (fun j => 2 ^ (15 - (i + j))) (natsI cn)
  | [], _ => rfl
  | c :: t, i => by
    rw [natsI_cons, lin, krC, Int.natCast_add, krC_lin t (i + 1), Int.natCast_mul, Int.natCast_pow]
    have e : (fun j => (2 : Int) ^ (15 - (i + 1 + j))) = fun j => 2 ^ (15 - (i + (j + 1))) := funext fun j => by rw [show i + 1 + j = i + (j + 1) by omega]
    rw [e, show 16 - (i + 1) = 15 - (i + 0) by omega]
    rfl
theorem lin_one_sum : ∀ (cn : List Nat), lin (fun _ => 1) (natsI cn) = (cn.sum : Int)
  | [] => rfl
  | c :: t => by rw [natsI_cons, lin, lin_one_sum t, List.sum_cons]; omega
theorem lin_take_sum : ∀ (cn : List Nat) (k : Nat), lin (fun i => if i < k then 1 else 0) (natsI cn) = ((cn.take k).sum : Int)
  | [], k => by simp [natsI, lin]
  | c :: t, 0 => by
    rw [natsI_cons, lin, lin_sm _ _ (natsI t).length (Nat.le_refl _), sm_zero fun i _ => by simp]; simp
  | c :: t, k + 1 => by
    have := lin_take_sum t k
    rw [natsI_cons, lin, List.take_succ_cons, List.sum_cons]
    have e : (fun i => if i + 1 < k + 1 then (1 : Int) else 0) = fun i => if i < k then 1 else 0 := funext fun i => by simp
    rw [e, this]; simp
theorem take_sum_le : ∀ (cn : List Nat) (k m : Nat), k ≤ m → (cn.take k).sum ≤ (cn.take m).sum
  | [], _, _, _ => by simp
  | c :: t, 0, _, _ => by simp
  | c :: t, k + 1, 0, h => by omega
  | c :: t, k + 1, m + 1, h => by
    have := take_sum_le t k m (by omega)
    simp only [List.take_succ_cons, List.sum_cons]; omega
theorem laid_take : ∀ (cn : List Nat) (i a b : Nat), ∀ e ∈ laidC cn i a b, a + (cn.take (e.2.1 - 1 - i)).sum ≤ e.1 ∧ 0 < cn.getD (e.2.1 - 1 - i) 0
  | [], _, _, _, e, he => by cases he
  | c :: t, i, a, b, e, he => by
    rw [laidC] at he
    rcases List.mem_append.1 he with he | he
    · obtain ⟨h1, h2, h3, _, _⟩ := lev_mem he
      rw [h3, show i + 1 - 1 - i = 0 by omega]
      simp; omega
    · have hm := laidC_mem he
      obtain ⟨h1, h2⟩ := laid_take t (i + 1) (a + c) (2 * b + c) e he
      rw [show e.2.1 - 1 - i = (e.2.1 - 1 - (i + 1)) + 1 by omega, List.take_succ_cons, List.sum_cons, List.getD_cons_succ]
      exact ⟨by omega, h2⟩
/-- a table whose sum is below one may be -/
theorem check_of {cn : List Nat} {vs : List Int} (hl : cn.length = 16) (hb : ∀ x ∈ cn, x ≤ 255) (hs : cn.sum = vs.length) (h256 : vs.length ≤ 256) (hnd : vs.Nodup) (hk : krC 0 cn ≤ 65535) : checkS (natsI cn) vs = true := by
  rw [checkS_nat cn vs hb, decide_eq_true_eq]
  refine ⟨hs, by omega, hnd, fun e he => ?_⟩
  have h1 := laid_kr cn 0 0 0 (by omega) e he
  have h2 := laidC_mem he
  rw [Nat.zero_mul, Nat.zero_add] at h1
  have e1 : 2 ^ e.2.1 * 2 ^ (16 - e.2.1) = 65536 := by rw [← Nat.pow_add, show e.2.1 + (16 - e.2.1) = 16 by omega]
  exact Nat.lt_of_mul_lt_mul_right (a := 2 ^ (16 - e.2.1)) (by omega)
theorem codeOf_hit (vs : List Int) (pre : List (Nat × Nat × Nat)) (v : Nat) (h : ∃ e ∈ pre, vs.getD e.1 0 = (v : Int)) : ∃ e ∈ pre, vs.getD e.1 0 = (v : Int) ∧ codeOf vs pre v = (e.2.1, e.2.2) := by
  unfold codeOf
  rw [← List.foldr_reverse]
  have : ∀ l : List (Nat × Nat × Nat), (∃ e ∈ l, vs.getD e.1 0 = (v : Int)) → ∃ e ∈ l, vs.getD e.1 0 = (v : Int) ∧ l.foldr (fun x f (v : Nat) => if vs.getD x.1 0 = (v : Int) then (x.2.1, x.2.2) else f v) (fun _ => (0, 0)) v = (e.2.1, e.2.2) := by
    intro l
    induction l with
    | nil => rintro ⟨e, he, _⟩; cases he
    | cons x l ih =>
      rintro ⟨e, he, hv⟩
      simp only [List.foldr_cons]
      by_cases h : vs.getD x.1 0 = (v : Int)
      · exact ⟨x, List.mem_cons_self, h, by rw [if_pos h]⟩
      · rw [if_neg h]
        have he2 : e ∈ l := by
          rcases List.mem_cons.1 he with rfl | he
          · exact absurd hv h
          · exact he
        obtain ⟨e3, h3, h4, h5⟩ := ih ⟨e, he2, hv⟩
        exact ⟨e3, List.mem_cons_of_mem _ h3, h4, h5⟩
  obtain ⟨e, he, h1, h2⟩ := this pre.reverse (by
    obtain ⟨e, he, hv⟩ := h
    exact ⟨e, List.mem_reverse.2 he, hv⟩)
  exact ⟨e, List.mem_reverse.1 he, h1, h2⟩
def krE : List (Nat × Nat × Nat) → Nat
  | [] => 0
  | e :: t => 2 ^ (16 - e.2.1) + krE t
theorem krE_append (p q : List (Nat × Nat × Nat)) : krE (p ++ q) = krE p + krE q := by
  induction p with
  | nil => simp [krE]
  | cons x t ih => simp only [List.cons_append, krE, ih]; omega
theorem krE_lev (i : Nat) : ∀ (n a b : Nat), krE (lev i n a b) = n * 2 ^ (16 - (i + 1))
  | 0, _, _ => by simp [lev, krE]
  | n + 1, a, b => by rw [lev, krE, krE_lev i n, Nat.add_mul]; simp; omega
theorem krE_laid : ∀ (cn : List Nat) (i a b : Nat), krE (laidC cn i a b) = krC i cn
  | [], _, _, _ => rfl
  | c :: t, i, a, b => by rw [laidC, krE_append, krE_lev, krE_laid t, krC]
/-- the values' sum is no more than that of the codes -/
theorem vals_kr (vs : List Int) : ∀ (n : Nat) (pre : List (Nat × Nat × Nat)), pre.length = n → sm (fun v => if 0 < (codeOf vs pre v).1 then 2 ^ (16 - (codeOf vs pre v).1) else 0) 256 ≤ ((krE pre : Nat) : Int)
  | 0, pre, hn => by
    rw [List.eq_nil_of_length_eq_zero hn, sm_zero fun v _ => by simp [codeOf]]; simp [krE]
  | n + 1, pre, hn => by
    obtain ⟨p, x, rfl⟩ : ∃ p x, pre = p ++ [x] := ⟨pre.dropLast, pre.getLast (by intro e; rw [e] at hn; cases hn), (List.dropLast_concat_getLast _).symm⟩
    have ih := vals_kr vs n p (by simpa using hn)
    have hpow : (0 : Int) ≤ 2 ^ (16 - x.2.1) := Int.le_of_lt (Int.pow_pos (by decide))
    have key := sm_point (f := fun v => if 0 < (codeOf vs p v).1 then (2 : Int) ^ (16 - (codeOf vs p v).1) else 0) (f' := fun v => if 0 < (codeOf vs (p ++ [x]) v).1 then (2 : Int) ^ (16 - (codeOf vs (p ++ [x]) v).1) else 0)
      (u := (vs.getD x.1 0).toNat) (c := 2 ^ (16 - x.2.1)) hpow (by
        have h0 : (0 : Int) ≤ if 0 < (codeOf vs p (vs.getD x.1 0).toNat).1 then (2 : Int) ^ (16 - (codeOf vs p (vs.getD x.1 0).toNat).1) else 0 := by
          split
          · exact Int.le_of_lt (Int.pow_pos (by decide))
          · exact Int.le_refl _
        simp only [codeOf_snoc]
        by_cases e : vs.getD x.1 0 = (((vs.getD x.1 0).toNat : Nat) : Int)
        · rw [if_pos e]
          simp only
          by_cases e2 : 0 < x.2.1
          · rw [if_pos e2]; omega
          · rw [if_neg e2]; omega
        · rw [if_neg e]; omega) 256 (fun v _ hne => by
        have e : ¬ vs.getD x.1 0 = (v : Int) := fun e => hne (by omega)
        simp only [codeOf_snoc, if_neg e])
    rw [krE_append]
    simp only [krE, Nat.add_zero, Int.natCast_add, Int.natCast_pow]
    split at key
    · exact Int.le_trans key (by have : ((2 : Nat) : Int) = 2 := rfl; rw [this]; omega)
    · exact Int.le_trans key (by have : ((2 : Nat) : Int) = 2 := rfl; rw [this]; omega)
end Go.Proofs.Ytdkgficmodcolaa
