/- A block's codes, as bits, read as the block; cut off by a byte or more they do not: in plain lists. -/
import Derived.Test.YtbjcjddaaegheaaGrpM
namespace Go.Proofs.Ytbjcjddaaegheaa
open Go.RowKit

/-- the bits X lie in the bytes from the place p on -/
def Holds (bs : List Int) (p : Nat) (X : List Bool) : Prop := p + X.length ≤ 8 * bs.length ∧ ∀ i, i < X.length → bitAt bs (p + i) = bI (X.getD i true)
theorem Holds.left {bs : List Int} {p : Nat} {X Y : List Bool} (h : Holds bs p (X ++ Y)) : Holds bs p X := by
  obtain ⟨h1, h2⟩ := h
  rw [List.length_append] at h1 h2
  refine ⟨by omega, fun i hi => ?_⟩
  rw [h2 i (by omega), List.getD_eq_getElem?_getD, List.getD_eq_getElem?_getD, List.getElem?_append_left hi]
theorem Holds.right {bs : List Int} {p : Nat} {X Y : List Bool} (h : Holds bs p (X ++ Y)) : Holds bs (p + X.length) Y := by
  obtain ⟨h1, h2⟩ := h
  rw [List.length_append] at h1 h2
  refine ⟨by omega, fun i hi => ?_⟩
  rw [Nat.add_assoc, h2 (X.length + i) (by omega), List.getD_eq_getElem?_getD, List.getD_eq_getElem?_getD, List.getElem?_append_right (by omega), show X.length + i - X.length = i by omega]
theorem topBits_getD (v : Int) : ∀ (N j : Nat), j < N → (topBits v N).getD j true = decide (v / 2 ^ (N - 1 - j) % 2 = 1)
  | 0, j, h => absurd h (by omega)
  | N + 1, 0, _ => by simp [topBits]
  | N + 1, j + 1, h => by
    have := topBits_getD v N j (by omega)
    rw [show N + 1 - 1 - (j + 1) = N - 1 - j by omega, ← this]
    simp [topBits]
theorem peekS_holds (bs : List Int) (p : Nat) (v : Int) (N : Nat) (h0 : 0 ≤ v) (h1 : v < 2 ^ N) (h : Holds bs p (topBits v N)) (n : Nat) (hn : n ≤ N) : peekS bs p n = v / 2 ^ (N - n) := by
  induction n with
  | zero => simp only [peekS, Nat.sub_zero]; exact (Int.ediv_eq_zero_of_lt h0 h1).symm
  | succ n ih =>
    have e1 : N - n = N - 1 - n + 1 := by omega
    rw [peekS, ih (by omega), h.2 n (by rw [topBits_length]; omega), topBits_getD _ _ _ (by omega), e1, show N - (n + 1) = N - 1 - n by omega, Int.pow_succ, ← Int.ediv_ediv_of_nonneg (by have := pow_pos_int (N - 1 - n); omega)]
    generalize v / 2 ^ (N - 1 - n) = q
    by_cases h : q % 2 = 1
    · simp [bI, h]; omega
    · simp [bI, h]; omega
theorem peekR_holds {bs : List Int} {p : Nat} {v : Int} {N : Nat} (h0 : 0 ≤ v) (h1 : v < 2 ^ N) (hN : N ≤ 32) (h : Holds bs p (topBits v N)) : peekR bs p N = some v := by
  have hl := h.1
  rw [topBits_length] at hl
  unfold peekR
  rw [if_pos (by omega), Int.toNat_natCast, Int.toNat_natCast, peekS_holds bs p v N h0 h1 h N (Nat.le_refl _), Nat.sub_self, Int.pow_zero, Int.ediv_one]
theorem peekS_add (bs : List Int) (p : Nat) : ∀ (n m : Nat), peekS bs p (n + m) / 2 ^ m = peekS bs p n
  | n, 0 => by simp
  | n, m + 1 => by
    have ih := peekS_add bs p n m
    have hb := bitAt_bd bs (p + (n + m))
    rw [← Nat.add_assoc, peekS, show (2 : Int) ^ (m + 1) = 2 * 2 ^ m by rw [Int.pow_succ]; omega, ← Int.ediv_ediv_of_nonneg (by omega)]
    rw [show (2 * peekS bs p (n + m) + bitAt bs (p + (n + m))) / 2 = peekS bs p (n + m) by omega, ih]
theorem peekR_shorter {bs : List Int} {p n m : Nat} {v : Int} (h : peekR bs p (n + m : Nat) = some v) : peekR bs p n = some (v / 2 ^ m) := by
  have hb := peekR_bd h
  unfold peekR at h ⊢
  rw [if_pos (by omega), Int.toNat_natCast, Int.toNat_natCast] at h
  rw [if_pos (by omega), Int.toNat_natCast, Int.toNat_natCast]
  injection h with h
  rw [← h, peekS_add]
/-- no code begins as another -/
def PF (f : Nat → Nat × Nat) : Prop := ∀ u v, u < 256 → v < 256 → 0 < (f u).1 → (f u).1 ≤ (f v).1 → (f v).2 / 2 ^ ((f v).1 - (f u).1) = (f u).2 → u = v
theorem hit_one {bs : List Int} {p : Nat} {f : Nat → Nat × Nat} (hf : PF f) {u v : Nat} (hu : u < 256) (hv : v < 256) (h1 : hitB bs p f u = true) (h2 : hitB bs p f v = true) : u = v := by
  obtain ⟨a1, a2⟩ := hitB_pos h1
  obtain ⟨b1, b2⟩ := hitB_pos h2
  rcases Nat.le_total (f u).1 (f v).1 with h | h
  · obtain ⟨m, hm⟩ : ∃ m, (f v).1 = (f u).1 + m := ⟨(f v).1 - (f u).1, by omega⟩
    rw [hm] at b2
    have := peekR_shorter b2
    rw [a2] at this
    refine hf u v hu hv a1 h ?_
    rw [hm, show (f u).1 + m - (f u).1 = m by omega]
    injection this with this
    have e : (((f v).2 / 2 ^ m : Nat) : Int) = ((f u).2 : Int) := by rw [this]; simp
    exact_mod_cast e
  · obtain ⟨m, hm⟩ : ∃ m, (f u).1 = (f v).1 + m := ⟨(f u).1 - (f v).1, by omega⟩
    rw [hm] at a2
    have := peekR_shorter a2
    rw [b2] at this
    refine (hf v u hv hu b1 h ?_).symm
    rw [hm, show (f v).1 + m - (f v).1 = m by omega]
    injection this with this
    have e : (((f u).2 / 2 ^ m : Nat) : Int) = ((f v).2 : Int) := by rw [this]; simp
    exact_mod_cast e
theorem codeS_hit {bs : List Int} {p : Nat} {f : Nat → Nat × Nat} (hf : PF f) {v : Nat} (hv : v < 256) (h : hitB bs p f v = true) : codeS bs p f = some v := by
  cases hc : codeS bs p f with
  | none => rw [codeS_none hc v hv] at h; cases h
  | some u =>
    obtain ⟨h1, h2, _⟩ := codeS_some hc
    rw [hit_one hf h1 hv h2 h]
structure GoodF (f : Nat → Nat × Nat) : Prop where
  pf : PF f
  fits : Fits f
  small : ∀ v, v < 256 → (f v).2 < 2 ^ (f v).1
theorem code_back {bs : List Int} {p : Nat} {f : Nat → Nat × Nat} (hf : GoodF f) {v : Nat} (hv : v < 256) (h0 : 0 < (f v).1) (h : Holds bs p (codeB (codeP f v))) : codeS bs p f = some v := by
  refine codeS_hit hf.pf hv ?_
  have hft := hf.fits v hv
  have hs := hf.small v hv
  unfold codeB codeP at h
  simp only [Int.toNat_natCast] at h
  have hp := peekR_holds (bs := bs) (p := p) (v := ((f v).2 : Int)) (N := (f v).1) (by omega) (by exact_mod_cast hs) (by omega) h
  unfold hitB
  rw [hp]
  simp [h0]
theorem tail_back {bs : List Int} {p : Nat} {x : Int} {s : Nat} (hx : x.natAbs ≤ 2047) (hs : sizeS x = s) (h : Holds bs p (codeB (tailP x))) : peekR bs p s = some (lowS x) ∧ backS (lowS x) s = x := by
  have h2 := sizeS_le x 11 (by omega) (by omega)
  obtain ⟨h3, h4⟩ := low_bd x (by omega)
  unfold codeB tailP at h
  simp only [hs, Int.toNat_natCast] at h h4
  exact ⟨peekR_holds h3 h4 (by omega) h, by rw [← hs]; exact back_low x (by omega)⟩
theorem codeB_len {f : Nat → Nat × Nat} (v : Nat) : (codeB (codeP f v)).length = (f v).1 := by simp [codeB, codeP, topBits_length]
theorem tailB_len (x : Int) : ((codeB (tailP x)).length : Int) = sizeS x := by
  have := sizeS_nonneg x
  simp only [codeB, tailP, topBits_length]; omega
theorem codesB_cons (c : Int × Int) (l : List (Int × Int)) : codesB (c :: l) = codeB c ++ codesB l := by simp [codesB]
end Go.Proofs.Ytbjcjddaaegheaa
namespace Go.Proofs.Ytbjcjddaaegheaa
open Go.RowKit

/-- each code that a block may need is there -/
structure FullD (f : Nat → Nat × Nat) : Prop extends GoodF f where
  has : ∀ s, s ≤ 11 → 0 < (f s).1
structure FullA (f : Nat → Nat × Nat) : Prop extends GoodF f where
  has : ∀ r s, r ≤ 15 → 1 ≤ s → s ≤ 10 → 0 < (f (16 * r + s)).1
  end_ : 0 < (f 0).1
  skip : 0 < (f 240).1
theorem dc_back {bs : List Int} {p : Nat} {fd : Nat → Nat × Nat} (hf : FullD fd) (z0 last l2 : Int) (h0 : (z0 - last).natAbs ≤ 2047) (b0 : -1024 ≤ z0 - last + l2) (b1 : z0 - last + l2 ≤ 1023)
    (h : Holds bs p (codesB [codeP fd (sizeS (z0 - last)).toNat, tailP (z0 - last)])) :
    dcS bs p l2 fd = some (z0 - last + l2, ((p + (codesB [codeP fd (sizeS (z0 - last)).toNat, tailP (z0 - last)]).length : Nat) : Int)) := by
  obtain ⟨d, hd⟩ : ∃ d, d = z0 - last := ⟨_, rfl⟩
  rw [← hd] at h h0 b0 b1 ⊢
  have s0 := sizeS_nonneg d
  have s1 := sizeS_le d 11 (by omega) (by omega)
  obtain ⟨s, hs⟩ : ∃ s : Nat, sizeS d = s := ⟨(sizeS d).toNat, by omega⟩
  rw [hs, Int.toNat_natCast] at h ⊢
  have e : codesB [codeP fd s, tailP d] = codeB (codeP fd s) ++ codeB (tailP d) := by simp [codesB]
  rw [e] at h ⊢
  have hc := code_back hf.toGoodF (by omega) (hf.has s (by omega)) h.left
  have ht := h.right
  rw [codeB_len] at ht
  obtain ⟨t1, t2⟩ := tail_back h0 hs ht
  have hl := tailB_len d
  have hw : wrap64 (d + l2) = d + l2 := by unfold wrap64; omega
  unfold dcS
  rw [hc]
  simp only
  rw [if_neg (by omega), show ((p : Int) + ((fd s).1 : Int)) = ((p + (fd s).1 : Nat) : Int) by omega, t1]
  simp only
  rw [t2, hw, if_neg (by omega), List.length_append, codeB_len]
  simp only [Option.some.injEq, Prod.mk.injEq, true_and]
  omega
theorem skips {bs : List Int} {fa : Nat → Nat × Nat} (hf : FullA fa) (z : List Int) : ∀ (j k p n : Nat), k + 16 * j < 64 → Holds bs p (codesB (List.replicate j (codeP fa 240))) →
    acS bs fa (n + j) k p z = acS bs fa n (k + 16 * j) ((p + (codesB (List.replicate j (codeP fa 240))).length : Nat) : Int) z
  | 0, k, p, n, _, _ => by simp [codesB]
  | j + 1, k, p, n, hk, h => by
    rw [List.replicate_succ, codesB_cons] at h ⊢
    have hc := code_back hf.toGoodF (by omega) hf.skip h.left
    have hr := h.right
    rw [codeB_len] at hr
    have ih := skips hf z j (k + 15 + 1) (p + (fa 240).1) n (by omega) hr
    rw [← Nat.add_assoc, acS, if_pos (by omega), hc]
    simp only
    rw [if_neg (by omega), if_neg (by omega), if_pos True.intro, if_pos (by omega), show k + 240 / 16 + 1 = k + 15 + 1 by omega, show ((p : Int) + ((fa 240).1 : Int)) = ((p + (fa 240).1 : Nat) : Int) by omega, ih, List.length_append, codeB_len,
      show k + 15 + 1 + 16 * j = k + 16 * (j + 1) by omega, Nat.add_assoc]
theorem set_zero_take (z : List Int) (i : Nat) (x : Int) (t : List Int) (hi : i < z.length) : (z.set i x).take (i + 1) ++ t = z.take i ++ x :: t := by
  have h : (z.set i x).take (i + 1) = z.take i ++ [x] := by
    apply List.ext_getElem?
    intro j
    rw [List.getElem?_take, List.getElem?_append, List.length_take]
    by_cases h1 : j < i
    · rw [if_pos (by omega), if_pos (by omega), List.getElem?_set_ne (by omega), List.getElem?_take, if_pos h1]
    · by_cases h2 : j = i
      · subst h2
        rw [if_pos (by omega), if_neg (by omega), List.getElem?_set_self hi, show j - min j z.length = 0 by omega]; rfl
      · rw [if_neg (by omega), if_neg (by omega), List.getElem?_eq_none (by simp; omega)]
  rw [h, List.append_assoc]; rfl
theorem ac_back {bs : List Int} {fa : Nat → Nat × Nat} (hf : FullA fa) : ∀ (l : List Int) (run kk p n : Nat) (z : List Int), kk + run + l.length = 64 → z.length = 64 → (∀ j, kk ≤ j → z.getD j 0 = 0) → (∀ x ∈ l, x.natAbs ≤ 1023) → 65 ≤ n + kk →
    Holds bs p (codesB (grpS fa l run).flatten) → acS bs fa n kk p z = some (z.take (kk + run) ++ l, ((p + (codesB (grpS fa l run).flatten).length : Nat) : Int))
  | [], run, kk, p, 0, z, hl, hz, h0, hx, hn, h => by simp at hl; omega
  | [], run, kk, p, n + 1, z, hl, hz, h0, hx, hn, h => by
    simp only [List.length_nil, Nat.add_zero] at hl
    rw [List.append_nil, List.take_of_length_le (by omega)]
    by_cases hr : 0 < run
    · rw [grpS, if_pos hr] at h ⊢
      simp only [List.flatten_cons, List.flatten_nil, List.append_nil, codesB_cons] at h ⊢
      have e : codesB [] = [] := rfl
      rw [e, List.append_nil] at h ⊢
      have hc := code_back hf.toGoodF (by omega) hf.end_ h
      rw [acS, if_pos (by omega), hc]
      simp only [if_true, codeB_len, Option.some.injEq, Prod.mk.injEq, true_and]
      omega
    · rw [grpS, if_neg hr]
      rw [acS, if_neg (by omega)]
      simp [codesB]
  | x :: t, run, kk, p, n, z, hl, hz, h0, hx, hn, h => by
    simp only [List.length_cons] at hl
    by_cases hx0 : x = 0
    · subst hx0
      rw [grpS, if_pos rfl] at h ⊢
      have ih := ac_back hf t (run + 1) kk p n z (by omega) hz h0 (fun y hy => hx y (by simp [hy])) hn h
      rw [ih, show kk + (run + 1) = kk + run + 1 by omega, List.take_add_one]
      have hget : z[kk + run]? = some 0 := by
        have := h0 (kk + run) (by omega)
        rw [List.getD_eq_getElem?_getD, List.getElem?_eq_getElem (by omega)] at this
        rw [List.getElem?_eq_getElem (by omega)]
        simpa using this
      rw [hget]
      simp
    · rw [grpS, if_neg hx0] at h ⊢
      have hxb := hx x (by simp)
      have s0 := sizeS_nonneg x
      have s1 := sizeS_le x 10 (by omega) (by omega)
      have s2 : 0 < sizeS x := by
        have := (size_tells x (by omega)).1
        rcases Int.lt_or_le 0 (sizeS x) with h1 | h1
        · exact h1
        · have e : (sizeS x).toNat = 0 := by omega
          rw [e] at this
          simp at this; omega
      obtain ⟨s, hs⟩ : ∃ s : Nat, sizeS x = s := ⟨(sizeS x).toNat, by omega⟩
      rw [List.flatten_cons, codesB_append, rowG, hs, Int.toNat_natCast, codesB_append] at h ⊢
      have e2 : codesB [codeP fa (16 * (run % 16) + s), tailP x] = codeB (codeP fa (16 * (run % 16) + s)) ++ codeB (tailP x) := by simp [codesB]
      rw [e2] at h ⊢
      obtain ⟨K, hK⟩ : ∃ K, K = codesB (List.replicate (run / 16) (codeP fa 240)) := ⟨_, rfl⟩
      obtain ⟨R, hR⟩ : ∃ R, R = codesB (grpS fa t 0).flatten := ⟨_, rfl⟩
      obtain ⟨v, hv⟩ : ∃ v, v = 16 * (run % 16) + s := ⟨_, rfl⟩
      rw [← hK, ← hR, ← hv] at h ⊢
      have hk1 := h.left.left
      have hk2 := h.left.right
      have hk3 := h.right
      rw [hK] at hk1
      have hsk := skips hf z (run / 16) kk p (n - run / 16) (by omega) hk1
      rw [show n - run / 16 + run / 16 = n by omega, ← hK] at hsk
      have hc := code_back hf.toGoodF (by omega) (by rw [hv]; exact hf.has (run % 16) s (by omega) (by omega) (by omega)) hk2.left
      have ht := hk2.right
      rw [codeB_len] at ht
      obtain ⟨t1, t2⟩ := tail_back (by omega) hs ht
      have htl := tailB_len x
      rw [hs] at htl
      rw [hsk]
      obtain ⟨m, hm⟩ : ∃ m, n - run / 16 = m + 1 := ⟨n - run / 16 - 1, by omega⟩
      rw [hm, acS, if_pos (by omega), hc]
      simp only
      have hpos : kk + 16 * (run / 16) + v / 16 = kk + run := by omega
      rw [if_neg (by omega), hpos, if_neg (by omega), if_neg (by omega), if_neg (by omega), show v % 16 = s by omega,
        show (((p + K.length : Nat) : Int) + ((fa v).1 : Int)) = ((p + K.length + (fa v).1 : Nat) : Int) by omega, t1]
      simp only
      rw [t2]
      have hq : Holds bs (p + K.length + (fa v).1 + s) R := by
        rw [List.length_append, List.length_append, codeB_len] at hk3
        have e : p + (K.length + ((fa v).1 + (codeB (tailP x)).length)) = p + K.length + (fa v).1 + s := by omega
        rwa [e] at hk3
      rw [hR] at hq
      have ih := ac_back hf t 0 (kk + run + 1) (p + K.length + (fa v).1 + s) m (z.set (kk + run) x) (by omega) (by simp [hz]) (fun j hj => by
        rw [List.getD_eq_getElem?_getD, List.getElem?_set_ne (by omega), ← List.getD_eq_getElem?_getD]
        exact h0 j (by omega)) (fun y hy => hx y (by simp [hy])) (by omega) hq
      rw [show (((p + K.length + (fa v).1 : Nat) : Int) + ((s : Nat) : Int)) = ((p + K.length + (fa v).1 + s : Nat) : Int) by omega, ih, Nat.add_zero, set_zero_take _ _ _ _ (by omega), ← hR]
      simp only [Option.some.injEq, Prod.mk.injEq, true_and, List.length_append, codeB_len]
      omega
theorem read_back {bs : List Int} {p : Nat} {fd fa : Nat → Nat × Nat} (hd : FullD fd) (ha : FullA fa) {z : List Int} {last l2 : Int} (hz : Zigged z) (l0 : -1024 ≤ last) (l1 : last ≤ 1023) (b0 : -1024 ≤ z.getD 0 0 - last + l2) (b1 : z.getD 0 0 - last + l2 ≤ 1023)
    (h : Holds bs p (codesB (groupsS fd fa z last).flatten)) : readS bs p l2 fd fa = some (z.set 0 (z.getD 0 0 - last + l2), ((p + (codesB (groupsS fd fa z last).flatten).length : Nat) : Int)) := by
  obtain ⟨f0, f1⟩ := hz.first
  unfold groupsS at h ⊢
  rw [List.flatten_cons, codesB_append] at h ⊢
  have hdc := dc_back hd (z.getD 0 0) last l2 (by omega) b0 b1 h.left
  obtain ⟨D, hD⟩ : ∃ D, D = codesB [codeP fd (sizeS (z.getD 0 0 - last)).toNat, tailP (z.getD 0 0 - last)] := ⟨_, rfl⟩
  rw [← hD] at h hdc ⊢
  have hac := ac_back ha (z.drop 1) 0 1 (p + D.length) 64 ((List.replicate 64 0).set 0 (z.getD 0 0 - last + l2)) (by simp [hz.len]) (by simp) (fun j hj => by
    rw [List.getD_eq_getElem?_getD, List.getElem?_set_ne (by omega), List.getElem?_replicate]
    split <;> rfl) hz.tail (by omega) h.right
  unfold readS
  rw [hdc]
  simp only
  rw [hac]
  have e : (((List.replicate 64 0).set 0 (z.getD 0 0 - last + l2)).take (1 + 0) ++ z.drop 1) = z.set 0 (z.getD 0 0 - last + l2) := by
    have hzl := hz.len
    cases z with
    | nil => simp at hzl
    | cons a t => simp [List.replicate]
  rw [e, List.length_append]
  simp only [Option.some.injEq, Prod.mk.injEq, true_and]
  omega
end Go.Proofs.Ytbjcjddaaegheaa
