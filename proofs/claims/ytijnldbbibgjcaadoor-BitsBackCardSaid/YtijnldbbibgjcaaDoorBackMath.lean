/- what was packed is peeked: in plain numbers. -/
import Derived.Test.YtijnldbbibgjcaaDoorJoin
namespace Go.Proofs.YtijnldbbibgjcaaDoor
open Go.RowKit

theorem i64_and_nat (a b : Nat) (ha : a < 9223372036854775808) (hb : b < 9223372036854775808) : bits .and .i64 (a : Int) (b : Int) = ((a &&& b : Nat) : Int) := by
  have hx : a &&& b < 2 ^ 63 := Nat.and_lt_two_pow a (by omega : b < 2 ^ 63)
  show IntKind.i64.wrap ((BitVec.ofInt 64 (a : Int) &&& BitVec.ofInt 64 (b : Int)).toNat : Int) = _
  rw [BitVec.toNat_and, ofInt_u64 a (by omega), ofInt_u64 b (by omega), IntKind.wrap_i64]
  omega
theorem i64_mask (x : Int) (m : Nat) (h0 : 0 ≤ x) (h1 : x < 9223372036854775808) (hm : m ≤ 32) : bits .and .i64 x (2 ^ m - 1) = x % 2 ^ m := by
  obtain ⟨a, rfl⟩ : ∃ a : Nat, x = a := ⟨x.toNat, by omega⟩
  have hp : 2 ^ m ≤ 2 ^ 32 := Nat.pow_le_pow_right (by omega) hm
  have hq : 1 ≤ 2 ^ m := Nat.one_le_two_pow
  have e : ((2 : Int) ^ m - 1) = ((2 ^ m - 1 : Nat) : Int) := by
    rw [Int.natCast_sub hq]; simp
  rw [e, i64_and_nat a _ (by omega) (by omega), Nat.and_two_pow_sub_one_eq_mod]
  simp
theorem topBits_getD (v : Int) : ∀ (N j : Nat), j < N → (topBits v N).getD j true = decide (v / 2 ^ (N - 1 - j) % 2 = 1)
  | 0, j, h => absurd h (by omega)
  | N + 1, 0, _ => by simp [topBits]
  | N + 1, j + 1, h => by
    have := topBits_getD v N j (by omega)
    rw [show N + 1 - 1 - (j + 1) = N - 1 - j by omega, ← this]
    simp [topBits]
theorem getD_mid (pre mid post : List Bool) (j : Nat) (h : j < mid.length) : (pre ++ (mid ++ post)).getD (pre.length + j) true = mid.getD j true := by
  simp only [List.getD_eq_getElem?_getD]
  rw [List.getElem?_append_right (by omega), show pre.length + j - pre.length = j by omega, List.getElem?_append_left h]
theorem packB_bit (B : List Bool) (i : Nat) (h : i < 8 * (packB B).length) : bitAt (packB B) i = bI (B.getD i true) := by
  rw [packB_length] at h
  exact bitAt_padded B _ i h
theorem peekS_top (pre post : List Bool) (v : Int) (N : Nat) (h0 : 0 ≤ v) (h1 : v < 2 ^ N) (n : Nat) (hn : n ≤ N) :
    peekS (packB (pre ++ (topBits v N ++ post))) pre.length n = v / 2 ^ (N - n) := by
  induction n with
  | zero => simp only [peekS, Nat.sub_zero]; exact (Int.ediv_eq_zero_of_lt h0 h1).symm
  | succ n ih =>
    have hlen : (pre ++ (topBits v N ++ post)).length = pre.length + (N + post.length) := by simp [topBits_length]
    have e1 : N - n = N - 1 - n + 1 := by omega
    rw [peekS, ih (by omega), packB_bit _ _ (by rw [packB_length, hlen]; omega), getD_mid _ _ _ _ (by rw [topBits_length]; omega), topBits_getD _ _ _ (by omega), e1, show N - (n + 1) = N - 1 - n by omega, Int.pow_succ, ← Int.ediv_ediv_of_nonneg (by have := pow_pos_int (N - 1 - n); omega)]
    generalize v / 2 ^ (N - 1 - n) = q
    by_cases h : q % 2 = 1
    · simp [bI, h]; omega
    · simp [bI, h]; omega
theorem peekS_end (B : List Bool) (n : Nat) (hn : B.length + n ≤ 8 * (packB B).length) : peekS (packB B) B.length n = 2 ^ n - 1 := by
  induction n with
  | zero => rfl
  | succ n ih =>
    rw [peekS, ih (by omega), packB_bit _ _ (by omega), List.getD_eq_getElem?_getD, List.getElem?_eq_none (by omega), Int.pow_succ]
    simp [bI]; omega
theorem codesBits_at (cs : List (Int × Int)) (i : Nat) (c : Int × Int) (h : cs[i]? = some c) : codesBits cs = codesBits (cs.take i) ++ (topBits c.2 (clipN c.1) ++ codesBits (cs.drop (i + 1))) := by
  have e : codesBits cs = codesBits (cs.take (i + 1)) ++ codesBits (cs.drop (i + 1)) := by unfold codesBits; rw [← List.flatMap_append, List.take_append_drop]
  rw [e, codesBits_snoc cs i c h, List.append_assoc]

/-- the codes that the law makes of the first so many pairs -/
def backC (bs : List Int) : Nat → List (Int × Int)
  | 0 => []
  | j + 1 => backC bs j ++ [(bs.getD (2 * j) 0 % 33, (bs.getD (2 * j + 1) 0 * 16843009 + (2 * j : Nat)) % 2 ^ (bs.getD (2 * j) 0 % 33).toNat)]
theorem backC_length (bs : List Int) (j : Nat) : (backC bs j).length = j := by induction j with | zero => rfl | succ j ih => simp [backC, ih]
theorem backC_good (bs : List Int) (j : Nat) : ∀ c ∈ backC bs j, 0 ≤ c.1 ∧ c.1 ≤ 32 ∧ 0 ≤ c.2 ∧ c.2 < 2 ^ c.1.toNat := by
  induction j with
  | zero => intro c hc; cases hc
  | succ j ih =>
    intro c hc
    rcases List.mem_append.1 hc with h | h
    · exact ih c h
    · obtain rfl := List.mem_singleton.1 h
      refine ⟨Int.emod_nonneg _ (by omega), by have := Int.emod_lt_of_pos (bs.getD (2 * j) 0) (by omega : (0 : Int) < 33); simp only; omega, Int.emod_nonneg _ (by have := pow_pos_int (bs.getD (2 * j) 0 % 33).toNat; omega), Int.emod_lt_of_pos _ (by have := pow_pos_int (bs.getD (2 * j) 0 % 33).toNat; omega)⟩
theorem backC_wf (bs : List Int) (j : Nat) : WfCodes (backC bs j) := by
  intro c hc
  obtain ⟨h0, h1, h2, h3⟩ := backC_good bs j c hc
  have := pow_le_int c.1.toNat 32 (by omega)
  simp only [Lit.wf, IntKind.min, IntKind.max, IntKind.signed, IntKind.bits]
  simp; omega
theorem backC_snoc (bs : List Int) (j : Nat) : codesV (backC bs (j + 1)) = codesV (backC bs j) ++ [.int .i64 (bs.getD (2 * j) 0 % 33), .int .i64 ((bs.getD (2 * j + 1) 0 * 16843009 + (2 * j : Nat)) % 2 ^ (bs.getD (2 * j) 0 % 33).toNat)] := by
  simp [backC, codesV, codeV]
end Go.Proofs.YtijnldbbibgjcaaDoor
