/- The merge in place: what its search finds, what its rotation makes; of lists alone. -/
import Derived.Test.YtdkgficmodcolaaInsert
namespace Go.Proofs.Ytdkgficmodcolaa
open Go.RowKit

/-- where x belongs among [m, b): below i all are less, from j on none is -/
structure FindL (f : Nat → Int) (xs : List Nat) (m b : Nat) (x : Int) (i j : Nat) : Prop where
  mi : m ≤ i
  ij : i ≤ j
  jb : j ≤ b
  lo : ∀ p, m ≤ p → p < i → f (xs.getD p 0) < x
  hi : ∀ p, j ≤ p → p < b → x ≤ f (xs.getD p 0)
theorem FindL.start (f : Nat → Int) (xs : List Nat) (m b : Nat) (x : Int) (h : m ≤ b) : FindL f xs m b x m b := ⟨Nat.le_refl _, h, Nat.le_refl _, fun p _ _ => by omega, fun p _ _ => by omega⟩
theorem FindL.up {f : Nat → Int} {xs : List Nat} {m b : Nat} {x : Int} {i j : Nat} (h : FindL f xs m b x i j) (hs : Srt f xs m b) {c : Nat} (h1 : i ≤ c) (h2 : c < j) (hl : f (xs.getD c 0) < x) : FindL f xs m b x (c + 1) j :=
  ⟨by have := h.mi; omega, by omega, h.jb, fun p p1 p2 => Int.lt_of_le_of_lt (hs p c p1 (by omega) (by have := h.jb; omega)) hl, h.hi⟩
theorem FindL.down {f : Nat → Int} {xs : List Nat} {m b : Nat} {x : Int} {i j : Nat} (h : FindL f xs m b x i j) (hs : Srt f xs m b) {c : Nat} (h1 : i ≤ c) (h2 : c < j) (hl : x ≤ f (xs.getD c 0)) : FindL f xs m b x i c :=
  ⟨h.mi, h1, by have := h.jb; omega, h.lo, fun p p1 p2 => Int.le_trans hl (hs c p (by have := h.mi; omega) p1 p2)⟩
/-- where x belongs among [a, m), behind its equals -/
structure FindR (f : Nat → Int) (xs : List Nat) (a m : Nat) (x : Int) (i j : Nat) : Prop where
  ai : a ≤ i
  ij : i ≤ j
  jm : j ≤ m
  lo : ∀ p, a ≤ p → p < i → f (xs.getD p 0) ≤ x
  hi : ∀ p, j ≤ p → p < m → x < f (xs.getD p 0)
theorem FindR.start (f : Nat → Int) (xs : List Nat) (a m : Nat) (x : Int) (h : a ≤ m) : FindR f xs a m x a m := ⟨Nat.le_refl _, h, Nat.le_refl _, fun p _ _ => by omega, fun p _ _ => by omega⟩
theorem FindR.up {f : Nat → Int} {xs : List Nat} {a m : Nat} {x : Int} {i j : Nat} (h : FindR f xs a m x i j) (hs : Srt f xs a m) {c : Nat} (h1 : i ≤ c) (h2 : c < j) (hl : f (xs.getD c 0) ≤ x) : FindR f xs a m x (c + 1) j :=
  ⟨by have := h.ai; omega, by omega, h.jm, fun p p1 p2 => Int.le_trans (hs p c p1 (by omega) (by have := h.jm; omega)) hl, h.hi⟩
theorem FindR.down {f : Nat → Int} {xs : List Nat} {a m : Nat} {x : Int} {i j : Nat} (h : FindR f xs a m x i j) (hs : Srt f xs a m) {c : Nat} (h1 : i ≤ c) (h2 : c < j) (hl : x < f (xs.getD c 0)) : FindR f xs a m x i c :=
  ⟨h.ai, h1, by have := h.jm; omega, h.lo, fun p p1 p2 => Int.lt_of_lt_of_le hl (hs c p (by have := h.ai; omega) p1 p2)⟩
/-- the one at a has gone up to k -/
structure MovU (xs zs : List Nat) (a b k : Nat) : Prop where
  inn : Inn xs zs a b
  at_ : ∀ p, zs.getD p 0 = if p = k then xs.getD a 0 else if a ≤ p ∧ p < k then xs.getD (p + 1) 0 else xs.getD p 0
theorem MovU.start (xs : List Nat) (a b : Nat) : MovU xs xs a b a := ⟨Inn.refl _ _ _, fun p => by
  by_cases e : p = a
  · rw [if_pos e, e]
  · rw [if_neg e, if_neg (by omega)]⟩
theorem MovU.step {xs zs : List Nat} {a b k : Nat} (h : MovU xs zs a b k) (hak : a ≤ k) (hkb : k + 1 < b) (hb : b ≤ xs.length) : MovU xs (swapL zs k (k + 1)) a b (k + 1) := by
  have hl := h.inn.len
  refine ⟨h.inn.trans (Inn.swap zs (by omega) (by omega) (by omega) (by omega)), fun p => ?_⟩
  rw [swapL_getD zs k (k + 1) p (by omega) (by omega) (by omega), h.at_, h.at_, h.at_]
  by_cases e1 : p = k + 1
  · rw [if_pos e1, if_pos e1, if_pos rfl]
  · rw [if_neg e1, if_neg e1]
    by_cases e2 : p = k
    · rw [if_pos e2, if_neg (by omega), if_neg (by omega), if_pos (by omega), e2]
    · rw [if_neg e2, if_neg e2]
      by_cases e3 : a ≤ p ∧ p < k
      · rw [if_pos e3, if_pos (by omega)]
      · rw [if_neg e3, if_neg (by omega)]
theorem MovU.done {f : Nat → Int} {xs zs : List Nat} {a b i : Nat} (h : MovU xs zs a b (i - 1)) (hf : FindL f xs (a + 1) b (f (xs.getD a 0)) i i) (hs : Srt f xs (a + 1) b) : Srt f zs a b := fun p q p1 p2 p3 => by
  have i1 := hf.mi
  have i2 := hf.jb
  rw [h.at_, h.at_]
  by_cases e1 : p = i - 1
  · rw [if_pos e1]
    by_cases e2 : q = i - 1
    · rw [if_pos e2]; exact Int.le_refl _
    · rw [if_neg e2, if_neg (by omega)]; exact hf.hi q (by omega) p3
  · rw [if_neg e1]
    by_cases e2 : q = i - 1
    · rw [if_pos e2, if_pos (by omega)]; exact Int.le_of_lt (hf.lo (p + 1) (by omega) (by omega))
    · rw [if_neg e2]
      by_cases e3 : a ≤ p ∧ p < i - 1
      · rw [if_pos e3]
        by_cases e4 : a ≤ q ∧ q < i - 1
        · rw [if_pos e4]; exact hs (p + 1) (q + 1) (by omega) (by omega) (by omega)
        · rw [if_neg e4]; exact hs (p + 1) q (by omega) (by omega) p3
      · rw [if_neg e3, if_neg (by omega)]; exact hs p q (by omega) p2 p3
/-- the one at m has gone down to k -/
structure MovD (xs zs : List Nat) (a b m k : Nat) : Prop where
  inn : Inn xs zs a b
  at_ : ∀ p, zs.getD p 0 = if p = k then xs.getD m 0 else if k < p ∧ p ≤ m then xs.getD (p - 1) 0 else xs.getD p 0
theorem MovD.start (xs : List Nat) (a b m : Nat) : MovD xs xs a b m m := ⟨Inn.refl _ _ _, fun p => by
  by_cases e : p = m
  · rw [if_pos e, e]
  · rw [if_neg e, if_neg (by omega)]⟩
theorem MovD.step {xs zs : List Nat} {a b m k : Nat} (h : MovD xs zs a b m (k + 1)) (hak : a ≤ k) (hkm : k + 1 ≤ m) (hmb : m < b) (hb : b ≤ xs.length) : MovD xs (swapL zs (k + 1) k) a b m k := by
  have hl := h.inn.len
  refine ⟨h.inn.trans (Inn.swap zs (by omega) (by omega) (by omega) (by omega)), fun p => ?_⟩
  rw [swapL_getD zs (k + 1) k p (by omega) (by omega) (by omega), h.at_, h.at_, h.at_]
  by_cases e1 : p = k
  · rw [if_pos e1, if_pos e1, if_pos rfl]
  · rw [if_neg e1, if_neg e1]
    by_cases e2 : p = k + 1
    · rw [if_pos e2, if_neg (by omega), if_neg (by omega), if_pos (by omega), e2]; rfl
    · rw [if_neg e2, if_neg e2]
      by_cases e3 : k + 1 < p ∧ p ≤ m
      · rw [if_pos e3, if_pos (by omega)]
      · rw [if_neg e3, if_neg (by omega)]
theorem MovD.done {f : Nat → Int} {xs zs : List Nat} {a m i : Nat} (h : MovD xs zs a (m + 1) m i) (hf : FindR f xs a m (f (xs.getD m 0)) i i) (hs : Srt f xs a m) : Srt f zs a (m + 1) := fun p q p1 p2 p3 => by
  have i1 := hf.ai
  have i2 := hf.jm
  rw [h.at_, h.at_]
  by_cases e1 : p = i
  · rw [if_pos e1]
    by_cases e2 : q = i
    · rw [if_pos e2]; exact Int.le_refl _
    · rw [if_neg e2, if_pos (by omega)]; exact Int.le_of_lt (hf.hi (q - 1) (by omega) (by omega))
  · rw [if_neg e1]
    by_cases e2 : q = i
    · rw [if_pos e2, if_neg (by omega)]; exact hf.lo p p1 (by omega)
    · rw [if_neg e2]
      by_cases e3 : i < p ∧ p ≤ m
      · rw [if_pos e3, if_pos (by omega)]; exact hs (p - 1) (q - 1) (by omega) (by omega) (by omega)
      · rw [if_neg e3]
        by_cases e4 : i < q ∧ q ≤ m
        · rw [if_pos e4]; exact hs p (q - 1) p1 (by omega) (by omega)
        · rw [if_neg e4]; exact hs p q p1 p2 (by omega)
/-- the search of the general merge: n = mid + m; c against n - 1 - c -/
structure FindS (f : Nat → Int) (xs : List Nat) (n lo0 r0 st r : Nat) : Prop where
  l1 : lo0 ≤ st
  l2 : st ≤ r
  l3 : r ≤ r0
  lo : ∀ c, lo0 ≤ c → c < st → f (xs.getD c 0) ≤ f (xs.getD (n - 1 - c) 0)
  hi : ∀ c, r ≤ c → c < r0 → f (xs.getD (n - 1 - c) 0) < f (xs.getD c 0)
theorem FindS.start (f : Nat → Int) (xs : List Nat) (n lo0 r0 : Nat) (h : lo0 ≤ r0) : FindS f xs n lo0 r0 lo0 r0 := ⟨Nat.le_refl _, h, Nat.le_refl _, fun c _ _ => by omega, fun c _ _ => by omega⟩
/-- the bounds of that search -/
structure RngS (a m b n lo0 r0 : Nat) : Prop where
  al : a ≤ lo0
  rm : r0 ≤ m
  rn : r0 + m ≤ n
  nb : n ≤ lo0 + b
theorem FindS.up {f : Nat → Int} {xs : List Nat} {a m b n lo0 r0 st r : Nat} (h : FindS f xs n lo0 r0 st r) (hr : RngS a m b n lo0 r0) (h1 : Srt f xs a m) (h2 : Srt f xs m b) {c : Nat} (hc1 : st ≤ c) (hc2 : c < r) (hl : f (xs.getD c 0) ≤ f (xs.getD (n - 1 - c) 0)) : FindS f xs n lo0 r0 (c + 1) r := by
  have a1 := h.l1; have a2 := h.l3; have b1 := hr.al; have b2 := hr.rm; have b3 := hr.rn; have b4 := hr.nb
  exact ⟨by omega, by omega, a2, fun d d1 d2 => Int.le_trans (h1 d c (by omega) (by omega) (by omega)) (Int.le_trans hl (h2 (n - 1 - c) (n - 1 - d) (by omega) (by omega) (by omega))), h.hi⟩
theorem FindS.down {f : Nat → Int} {xs : List Nat} {a m b n lo0 r0 st r : Nat} (h : FindS f xs n lo0 r0 st r) (hr : RngS a m b n lo0 r0) (h1 : Srt f xs a m) (h2 : Srt f xs m b) {c : Nat} (hc1 : st ≤ c) (hc2 : c < r) (hl : f (xs.getD (n - 1 - c) 0) < f (xs.getD c 0)) : FindS f xs n lo0 r0 st c := by
  have a1 := h.l1; have a2 := h.l3; have b1 := hr.al; have b2 := hr.rm; have b3 := hr.rn; have b4 := hr.nb
  exact ⟨a1, hc1, by omega, h.lo, fun d d1 d2 => Int.lt_of_le_of_lt (h2 (n - 1 - d) (n - 1 - c) (by omega) (by omega) (by omega)) (Int.lt_of_lt_of_le hl (h1 c d (by omega) d1 (by omega)))⟩
theorem RotS.none {xs : List Nat} {st m en : Nat} (h : st = m ∨ m = en) (h2 : m ≤ en) : RotS xs xs st m en := by
  refine ⟨rfl, List.Perm.refl _, fun _ _ => rfl, fun k k1 k2 => ?_⟩
  unfold rotT
  rcases h with h | h
  · rw [if_pos (by omega)]; congr 1; omega
  · rw [if_neg (by omega)]; congr 1; omega
theorem RotS.toInn {xs ys : List Nat} {st m en : Nat} (h : RotS xs ys st m en) (h1 : st ≤ m) (h2 : m ≤ en) : Inn xs ys st en :=
  ⟨h.len, h.perm, h.out, fun k k1 k2 => by
    rw [h.at_ k k1 k2]
    unfold rotT
    by_cases e : k < st + (en - m)
    · rw [if_pos e]; exact ⟨_, by omega, by omega, rfl⟩
    · rw [if_neg e]; exact ⟨_, by omega, by omega, rfl⟩⟩
/-- what lies behind the rotation: four sorted parts, and nothing in the left two is greater than anything in the right two -/
structure Four (f : Nat → Int) (zs : List Nat) (a st mid en b : Nat) : Prop where
  s1 : Srt f zs a st
  s2 : Srt f zs st mid
  s3 : Srt f zs mid en
  s4 : Srt f zs en b
  cross : ∀ i j, a ≤ i → i < mid → mid ≤ j → j < b → f (zs.getD i 0) ≤ f (zs.getD j 0)
theorem sym_four {f : Nat → Int} {xs zs : List Nat} {a m b mid lo0 r0 st : Nat} (h1 : Srt f xs a m) (h2 : Srt f xs m b) (hf : FindS f xs (mid + m) lo0 r0 st st) (hr : RngS a m b (mid + m) lo0 r0)
    (hlo : lo0 = a ∨ lo0 + b = mid + m) (hr0 : r0 = m ∨ r0 = mid) (hrot : RotS xs zs st m (mid + m - st)) : Four f zs a st mid (mid + m - st) b := by
  have a1 := hf.l1; have a2 := hf.l3; have b1 := hr.al; have b2 := hr.rm; have b3 := hr.rn; have b4 := hr.nb
  have hL : ∀ k, st ≤ k → k < mid → zs.getD k 0 = xs.getD (k + (m - st)) 0 := fun k k1 k2 => by
    rw [hrot.at_ k k1 (by omega)]; unfold rotT; rw [if_pos (by omega)]
  have hR : ∀ k, mid ≤ k → k < mid + m - st → zs.getD k 0 = xs.getD (k - (mid - st)) 0 := fun k k1 k2 => by
    rw [hrot.at_ k (by omega) k2]; unfold rotT; rw [if_neg (by omega)]; congr 1; omega
  have hO : ∀ k, k < st ∨ mid + m - st ≤ k → zs.getD k 0 = xs.getD k 0 := fun k hk => hrot.out k hk
  refine ⟨fun i j i1 i2 i3 => ?_, fun i j i1 i2 i3 => ?_, fun i j i1 i2 i3 => ?_, fun i j i1 i2 i3 => ?_, fun i j i1 i2 j1 j2 => ?_⟩
  · rw [hO i (by omega), hO j (by omega)]; exact h1 i j i1 i2 (by omega)
  · rw [hL i i1 (by omega), hL j (by omega) i3]; exact h2 _ _ (by omega) (by omega) (by omega)
  · rw [hR i i1 (by omega), hR j (by omega) i3]; exact h1 _ _ (by omega) (by omega) (by omega)
  · rw [hO i (by omega), hO j (by omega)]; exact h2 i j (by omega) i2 i3
  · by_cases e1 : i < st
    · rw [hO i (by omega)]
      by_cases e2 : j < mid + m - st
      · rw [hR j j1 e2]; exact h1 _ _ i1 (by omega) (by omega)
      · rw [hO j (by omega)]
        have hst : lo0 < st := by omega
        have q1 := hf.lo (st - 1) (by omega) (by omega)
        have q2 := h1 i (st - 1) i1 (by omega) (by omega)
        have q3 := h2 (mid + m - 1 - (st - 1)) j (by omega) (by omega) j2
        omega
    · rw [hL i (by omega) i2]
      by_cases e2 : j < mid + m - st
      · rw [hR j j1 e2]
        have hst : st < r0 := by omega
        have q1 := hf.hi st (Nat.le_refl _) hst
        have q2 := h2 (i + (m - st)) (mid + m - 1 - st) (by omega) (by omega) (by omega)
        have q3 := h1 st (j - (mid - st)) (by omega) (by omega) (by omega)
        omega
      · rw [hO j (by omega)]; exact h2 _ _ (by omega) (by omega) j2
theorem Four.left {f : Nat → Int} {zs : List Nat} {a st mid en b : Nat} (h : Four f zs a st mid en b) (hs : ¬ (a < st ∧ st < mid)) (h1 : a ≤ st) (h2 : st ≤ mid) : Srt f zs a mid := by
  by_cases e : a = st
  · rw [e]; exact h.s2
  · have : st = mid := by omega
    rw [← this]; exact h.s1
theorem Four.right {f : Nat → Int} {zs : List Nat} {a st mid en b : Nat} (h : Four f zs a st mid en b) (hs : ¬ (mid < en ∧ en < b)) (h1 : mid ≤ en) (h2 : en ≤ b) : Srt f zs mid b := by
  by_cases e : mid = en
  · rw [e]; exact h.s4
  · have : en = b := by omega
    rw [← this]; exact h.s3
theorem Four.join {f : Nat → Int} {zs z2 z3 : List Nat} {a st mid en b : Nat} (h : Four f zs a st mid en b) (i1 : Inn zs z2 a mid) (i2 : Inn z2 z3 mid b) (s1 : Srt f z2 a mid) (s2 : Srt f z3 mid b) : Srt f z3 a b := fun i j h1 h2 h3 => by
  by_cases e1 : j < mid
  · rw [i2.out i (by omega), i2.out j (by omega)]; exact s1 i j h1 h2 e1
  · by_cases e2 : i < mid
    · obtain ⟨j', j1, j2, j3⟩ := i2.inn j (by omega) h3
      obtain ⟨i', k1, k2, k3⟩ := i1.inn i h1 e2
      rw [j3, i2.out i (by omega), k3, i1.out j' (by omega)]
      exact h.cross i' j' k1 k2 j1 j2
    · exact s2 i j (by omega) h2 h3
end Go.Proofs.Ytdkgficmodcolaa
