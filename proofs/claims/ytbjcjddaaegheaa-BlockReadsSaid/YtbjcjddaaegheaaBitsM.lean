/- Codes as bits, bits as bytes: plain facts on lists, no program. -/
import Derived.Test.YtbjcjddaaegheaaRowsAt
import Derived.Test.YtbjcjddaaegheaaPeek
namespace Go.Proofs.Ytbjcjddaaegheaa
open Go.RowKit

def bI (b : Bool) : Int := if b then 1 else 0
theorem bI_bd (b : Bool) : 0 ≤ bI b ∧ bI b ≤ 1 := by cases b <;> decide
def topBits (v : Int) : Nat → List Bool
  | 0 => []
  | k + 1 => decide (v / 2 ^ k % 2 = 1) :: topBits v k
theorem topBits_length (v : Int) (k : Nat) : (topBits v k).length = k := by induction k with | zero => rfl | succ k ih => simp [topBits, ih]
def codeB (c : Int × Int) : List Bool := topBits c.2 c.1.toNat
def codesB (cs : List (Int × Int)) : List Bool := cs.flatMap codeB
theorem codesB_append (a b : List (Int × Int)) : codesB (a ++ b) = codesB a ++ codesB b := by simp [codesB]
def Sane (cs : List (Int × Int)) : Prop := ∀ c ∈ cs, 0 ≤ c.1 ∧ c.1 ≤ 32 ∧ 0 ≤ c.2 ∧ c.2 < 4294967296
theorem codesB_snoc (cs : List (Int × Int)) (i : Nat) (c : Int × Int) (h : cs[i]? = some c) : codesB (cs.take (i + 1)) = codesB (cs.take i) ++ codeB c := by
  have hi : i < cs.length := by
    rcases Nat.lt_or_ge i cs.length with h1 | h1
    · exact h1
    · rw [List.getElem?_eq_none h1] at h; cases h
  have hc : cs[i] = c := by rw [List.getElem?_eq_getElem hi] at h; exact Option.some.inj h
  rw [List.take_succ_eq_append_getElem hi, codesB, List.flatMap_append, hc]
  simp [codesB]
theorem rowCells_at (cs : List (Int × Int)) (i : Nat) (c : Int × Int) (h : cs[i]? = some c) : (rowCells cs)[i * 2]? = some (.int .i64 c.1) ∧ (rowCells cs)[i * 2 + 1]? = some (.int .i64 c.2) := by
  induction cs generalizing i with
  | nil => simp at h
  | cons d cs ih =>
    cases i with
    | zero => simp at h; subst h; simp [rowCells]
    | succ i =>
      simp at h
      obtain ⟨a, b⟩ := ih i h
      have e : (rowCells (d :: cs)) = [.int .i64 d.1, .int .i64 d.2] ++ rowCells cs := by simp [rowCells]
      rw [e]
      have e1 : (i + 1) * 2 = i * 2 + 2 := by omega
      constructor
      · rw [e1, List.getElem?_append_right (by simp)]; simpa using a
      · rw [e1, List.getElem?_append_right (by simp)]; simpa using b
theorem codesB_le (cs : List (Int × Int)) (h : Sane cs) : (codesB cs).length ≤ 32 * cs.length := by
  induction cs with
  | nil => simp [codesB]
  | cons c cs ih =>
    have e : codesB (c :: cs) = codeB c ++ codesB cs := by simp [codesB]
    have h1 := h c (by simp)
    have h2 := ih (fun d hd => h d (by simp [hd]))
    rw [e, List.length_append, codeB, topBits_length, List.length_cons]; omega
theorem topBits_split (v : Int) (n : Nat) : ∀ k, k ≤ n → topBits v n = (topBits v n).take (n - k) ++ topBits v k := by
  intro k hk
  induction n with
  | zero => obtain rfl : k = 0 := by omega
            rfl
  | succ n ih =>
    by_cases e : k = n + 1
    · subst e; simp
    · have := ih (by omega)
      rw [show n + 1 - k = (n - k) + 1 by omega, topBits, List.take_succ_cons, List.cons_append, ← this]
def bitV (bs : List Bool) : List Value := bs.map fun b => .int .i64 (bI b)
theorem bitV_append (a b : List Bool) : bitV (a ++ b) = bitV a ++ bitV b := by simp [bitV]
theorem and_i1 (y : Int) (h0 : 0 ≤ y) (h1 : y ≤ 4611686018427387904) : bits .and .i64 y 1 = y % 2 := by
  obtain ⟨a, rfl⟩ := Int.eq_ofNat_of_zero_le h0
  show IntKind.i64.wrap ((BitVec.ofInt 64 (a : Int) &&& BitVec.ofInt 64 ((1 : Nat) : Int)).toNat : Int) = _
  rw [BitVec.toNat_and, ofInt_u64 a (by omega), ofInt_u64 _ (by omega), IntKind.wrap_i64]
  rw [Nat.and_one_is_mod]; omega
theorem bI_dec (x : Int) : bI (decide (x % 2 = 1)) = x % 2 := by
  by_cases h : x % 2 = 1
  · simp [bI, h]
  · simp [bI, h]; omega

def byteVal (f : Nat → Bool) : Int := 128 * bI (f 0) + 64 * bI (f 1) + 32 * bI (f 2) + 16 * bI (f 3) + 8 * bI (f 4) + 4 * bI (f 5) + 2 * bI (f 6) + bI (f 7)
def padded (bs : List Bool) (m : Nat) : List Int := (List.range m).map fun j => byteVal fun k => bs.getD (8 * j + k) true
def packB (bs : List Bool) : List Int := padded bs ((bs.length + 7) / 8)

theorem byteVal_bd (f : Nat → Bool) : 0 ≤ byteVal f ∧ byteVal f ≤ 255 := by
  have h := fun k => bI_bd (f k)
  have h0 := h 0; have h1 := h 1; have h2 := h 2; have h3 := h 3; have h4 := h 4; have h5 := h 5; have h6 := h 6; have h7 := h 7
  unfold byteVal; omega
theorem padded_length (bs : List Bool) (m : Nat) : (padded bs m).length = m := by simp [padded]
theorem padded_bytes (bs : List Bool) (m : Nat) : AreBytes (padded bs m) := by
  intro x hx
  obtain ⟨j, _, rfl⟩ := List.mem_map.1 hx
  exact byteVal_bd _
theorem padded_at (bs : List Bool) (m j : Nat) (h : j < m) : (padded bs m).getD j 0 = byteVal fun k => bs.getD (8 * j + k) true := by
  rw [List.getD_eq_getElem?_getD]; simp [padded, h]
theorem byteVal_bit (f : Nat → Bool) (k : Nat) (h : k < 8) : byteVal f / 2 ^ (7 - k) % 2 = bI (f k) := by
  have h0 := bI_bd (f 0); have h1 := bI_bd (f 1); have h2 := bI_bd (f 2); have h3 := bI_bd (f 3); have h4 := bI_bd (f 4); have h5 := bI_bd (f 5); have h6 := bI_bd (f 6); have h7 := bI_bd (f 7)
  unfold byteVal
  match k, h with
  | 0, _ => simp only [Nat.sub_zero, Int.reducePow]; omega
  | 1, _ => simp only [Nat.reduceSub, Int.reducePow]; omega
  | 2, _ => simp only [Nat.reduceSub, Int.reducePow]; omega
  | 3, _ => simp only [Nat.reduceSub, Int.reducePow]; omega
  | 4, _ => simp only [Nat.reduceSub, Int.reducePow]; omega
  | 5, _ => simp only [Nat.reduceSub, Int.reducePow]; omega
  | 6, _ => simp only [Nat.reduceSub, Int.reducePow]; omega
  | 7, _ => simp only [Nat.sub_self, Int.pow_zero]; omega
theorem bitAt_padded (bs : List Bool) (m i : Nat) (h : i < 8 * m) : bitAt (padded bs m) i = bI (bs.getD i true) := by
  unfold bitAt
  rw [padded_at _ _ _ (by omega), byteVal_bit _ _ (by omega)]
  have : 8 * (i / 8) + i % 8 = i := by omega
  rw [this]
theorem byteVal_turn (f : Nat → Bool) (x : Bool) (r : Nat) (h : r < 8) (hf : f r = true) : byteVal (fun k => if k = r then x else f k) = byteVal f - (1 - bI x) * 2 ^ (7 - r) := by
  have ht : bI (f r) = 1 := by rw [hf]; rfl
  unfold byteVal
  match r, h with
  | 0, _ => simp only [if_true, if_false, Nat.sub_zero, Int.reducePow, show (1 : Nat) ≠ 0 from by decide, show (2 : Nat) ≠ 0 from by decide, show (3 : Nat) ≠ 0 from by decide, show (4 : Nat) ≠ 0 from by decide, show (5 : Nat) ≠ 0 from by decide, show (6 : Nat) ≠ 0 from by decide, show (7 : Nat) ≠ 0 from by decide]; omega
  | 1, _ => simp; omega
  | 2, _ => simp; omega
  | 3, _ => simp; omega
  | 4, _ => simp; omega
  | 5, _ => simp; omega
  | 6, _ => simp; omega
  | 7, _ => simp; omega
theorem getD_snoc (bs : List Bool) (x : Bool) (i : Nat) : (bs ++ [x]).getD i true = if i = bs.length then x else bs.getD i true := by
  rw [List.getD_eq_getElem?_getD, List.getD_eq_getElem?_getD]
  rcases Nat.lt_trichotomy i bs.length with h | h | h
  · rw [List.getElem?_append_left h, if_neg (by omega)]
  · subst h; simp
  · rw [if_neg (by omega), List.getElem?_eq_none (by simp; omega), List.getElem?_eq_none (by omega)]
theorem padded_snoc (bs : List Bool) (x : Bool) : padded (bs ++ [x]) (bs.length / 8 + 1) =
    (padded bs (bs.length / 8 + 1)).set (bs.length / 8) ((padded bs (bs.length / 8 + 1)).getD (bs.length / 8) 0 - (1 - bI x) * 2 ^ (7 - bs.length % 8)) := by
  apply List.ext_getElem
  · simp [padded_length]
  · intro j h1 h2
    rw [padded_length] at h1
    rw [List.getElem_set]
    have e1 : (padded (bs ++ [x]) (bs.length / 8 + 1))[j] = byteVal fun k => (bs ++ [x]).getD (8 * j + k) true := by simp [padded]
    rw [e1]
    by_cases hj : bs.length / 8 = j
    · rw [if_pos hj, padded_at _ _ _ (by omega), hj]
      rw [← byteVal_turn _ x (bs.length % 8) (by omega) (by rw [List.getD_eq_getElem?_getD, List.getElem?_eq_none (by omega)]; rfl)]
      congr 1
      funext k
      rw [getD_snoc]
      by_cases hk : k = bs.length % 8
      · rw [if_pos (by omega), if_pos hk]
      · by_cases hk8 : 8 * j + k = bs.length
        · exfalso; omega
        · rw [if_neg hk8, if_neg hk]
    · rw [if_neg hj]
      have e2 : (padded bs (bs.length / 8 + 1))[j]'(by rw [padded_length]; omega) = byteVal fun k => bs.getD (8 * j + k) true := by simp [padded]
      rw [e2]
      unfold byteVal
      simp only [getD_snoc]
      rw [if_neg (by omega), if_neg (by omega), if_neg (by omega), if_neg (by omega), if_neg (by omega), if_neg (by omega), if_neg (by omega), if_neg (by omega)]
theorem packB_snoc (bs : List Bool) (x : Bool) : packB (bs ++ [x]) = padded (bs ++ [x]) (bs.length / 8 + 1) := by
  unfold packB
  rw [List.length_append, List.length_singleton]
  congr 1; omega
theorem padded_full (bs : List Bool) (h : bs.length % 8 = 0) : padded bs (bs.length / 8 + 1) = packB bs ++ [255] := by
  unfold packB
  have e : (bs.length + 7) / 8 = bs.length / 8 := by omega
  rw [e]
  unfold padded
  rw [List.range_succ, List.map_append]
  congr 1
  simp only [List.map_cons, List.map_nil]
  congr 1
  have hk : ∀ k, bs.getD (8 * (bs.length / 8) + k) true = true := fun k => by
    rw [List.getD_eq_getElem?_getD, List.getElem?_eq_none (by omega)]; rfl
  unfold byteVal
  simp only [hk]; rfl
theorem padded_part (bs : List Bool) (h : bs.length % 8 ≠ 0) : padded bs (bs.length / 8 + 1) = packB bs := by
  unfold packB
  congr 1; omega
theorem xor_turn : ∀ (a : Fin 256) (r : Fin 8), a.val / 2 ^ r.val % 2 = 1 → a.val ^^^ 2 ^ r.val = a.val - 2 ^ r.val := by decide +kernel
theorem packB_length (bs : List Bool) : (packB bs).length = (bs.length + 7) / 8 := padded_length _ _
end Go.Proofs.Ytbjcjddaaegheaa
