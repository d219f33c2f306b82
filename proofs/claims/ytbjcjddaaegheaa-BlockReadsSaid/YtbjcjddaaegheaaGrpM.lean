/- The codes of a block: in bounds, not many; a number's bits say the number: in plain lists. -/
import Derived.Test.YtbjcjddaaegheaaBitsM
import Derived.Test.YtbjcjddaaegheaaBRead
import Derived.Test.YtbjcjddaaegheaaZig
namespace Go.Proofs.Ytbjcjddaaegheaa
open Go.RowKit

theorem bitLen_tells : ∀ (b x : Nat), x ≤ b → x < 2 ^ 64 → x < 2 ^ Lib.bitLen x ∧ (0 < x → 2 ^ Lib.bitLen x ≤ 2 * x)
  | 0, x, hb, _ => by
    obtain rfl : x = 0 := by omega
    exact ⟨by decide, fun h => by omega⟩
  | b + 1, x, hb, h64 => by
    by_cases h0 : x = 0
    · subst h0
      exact ⟨by decide, fun h => by omega⟩
    · have e := Lib.bitLen_half x h0 h64
      obtain ⟨r1, r2⟩ := bitLen_tells b (x / 2) (by omega) (by omega)
      rw [e, Nat.add_comm, Nat.pow_succ]
      refine ⟨by omega, fun _ => ?_⟩
      by_cases h1 : x / 2 = 0
      · rw [h1]
        have : Lib.bitLen 0 = 0 := by decide
        rw [this]; omega
      · have := r2 (by omega)
        omega

theorem size_tells (n : Int) (h : n.natAbs < 2 ^ 64) : (n.natAbs : Int) < 2 ^ (sizeS n).toNat ∧ (n ≠ 0 → (2 : Int) ^ (sizeS n).toNat ≤ 2 * n.natAbs) := by
  obtain ⟨a, b⟩ := bitLen_tells n.natAbs n.natAbs (by omega) h
  have e : (sizeS n).toNat = Lib.bitLen n.natAbs := by unfold sizeS; omega
  rw [e]
  refine ⟨by exact_mod_cast a, fun h0 => ?_⟩
  have := b (by omega)
  exact_mod_cast this

theorem low_eq (n : Int) (h : n.natAbs ≤ 2147483648) : lowS n = if n < 0 then n + 2 ^ (sizeS n).toNat - 1 else n := by
  unfold lowS; rw [if_neg (by omega)]

theorem back_eq (v s : Int) (h0 : 0 ≤ s) (h1 : s ≤ 31) (v0 : 0 ≤ v) (v1 : v < 2 ^ s.toNat) : backS v s = if 2 * v < 2 ^ s.toNat then v - 2 ^ s.toNat + 1 else v := by
  unfold backS; rw [if_neg (by omega)]

theorem low_bd (n : Int) (h : n.natAbs < 2147483648) : 0 ≤ lowS n ∧ lowS n < 2 ^ (sizeS n).toNat := by
  rw [low_eq n (by omega)]
  obtain ⟨a, b⟩ := size_tells n (by omega)
  split <;> omega

theorem back_low (n : Int) (h : n.natAbs < 2147483648) : backS (lowS n) (sizeS n) = n := by
  obtain ⟨a, b⟩ := size_tells n (by omega)
  obtain ⟨c, d⟩ := low_bd n h
  rw [back_eq _ _ (sizeS_nonneg n) (by have := sizeS_le n 31 (by omega) (by omega); omega) c d, low_eq n (by omega)]
  by_cases h0 : n = 0
  · subst h0; simp [sizeS_zero]
  · have := b h0
    by_cases hn : n < 0
    · rw [if_pos hn, if_pos (by omega)]; omega
    · rw [if_neg hn, if_neg (by omega)]


def SaneC (c : Int × Int) : Prop := 0 ≤ c.1 ∧ c.1 ≤ 32 ∧ 0 ≤ c.2 ∧ c.2 < 4294967296
theorem sane_code {f : Nat → Nat × Nat} (hf : Fits f) (v : Nat) (h : v < 256) : SaneC (codeP f v) := by
  obtain ⟨h1, h2⟩ := hf v h
  simp only [SaneC, codeP]; omega
theorem sane_tail (n : Int) (h : n.natAbs ≤ 2047) : SaneC (tailP n) := by
  have h1 := sizeS_nonneg n
  have h2 := sizeS_le n 11 (by omega) (by omega)
  obtain ⟨h3, h4⟩ := low_bd n (by omega)
  have := pow_le_int (sizeS n).toNat 11 (by omega)
  simp only [SaneC, tailP]; omega
theorem grp_sane {fa : Nat → Nat × Nat} (hf : Fits fa) : ∀ (l : List Int) (run : Nat), (∀ x ∈ l, x.natAbs ≤ 1023) → ∀ r ∈ grpS fa l run, ∀ c ∈ r, SaneC c
  | [], run, _, r, hr, c, hc => by
    unfold grpS at hr
    split at hr
    · simp only [List.mem_singleton] at hr
      subst hr
      simp only [List.mem_singleton] at hc
      subst hc
      exact sane_code hf 0 (by omega)
    · cases hr
  | x :: t, run, hl, r, hr, c, hc => by
    unfold grpS at hr
    split at hr
    · exact grp_sane hf t _ (fun y hy => hl y (by simp [hy])) r hr c hc
    · rcases List.mem_cons.1 hr with rfl | hr
      · have hx := hl x (by simp)
        have h1 := sizeS_nonneg x
        have h2 := sizeS_le x 10 (by omega) (by omega)
        unfold rowG at hc
        rcases List.mem_append.1 hc with h | h
        · obtain ⟨_, rfl⟩ := List.mem_replicate.1 h
          exact sane_code hf 240 (by omega)
        · simp only [List.mem_cons, List.not_mem_nil, or_false] at h
          rcases h with rfl | rfl
          · exact sane_code hf _ (by omega)
          · exact sane_tail x (by omega)
      · exact grp_sane hf t _ (fun y hy => hl y (by simp [hy])) r hr c hc
theorem mem_of_getD {l : List Int} {x : Int} (h : x ∈ l) : ∃ i, i < l.length ∧ l.getD i 0 = x := by
  obtain ⟨i, hi, rfl⟩ := List.mem_iff_getElem.1 h
  exact ⟨i, hi, by rw [List.getD_eq_getElem?_getD, List.getElem?_eq_getElem hi]; rfl⟩
theorem Zigged.tail {z : List Int} (hz : Zigged z) : ∀ x ∈ z.drop 1, x.natAbs ≤ 1023 := by
  intro x hx
  obtain ⟨i, _, rfl⟩ := mem_of_getD hx
  have e : (z.drop 1).getD i 0 = z.getD (1 + i) 0 := by rw [List.getD_eq_getElem?_getD, List.getD_eq_getElem?_getD, List.getElem?_drop]
  rw [e]
  have := hz.all (1 + i) (by omega)
  omega
theorem groups_sane {fd fa : Nat → Nat × Nat} {z : List Int} {last : Int} (hfd : Fits fd) (hfa : Fits fa) (hz : Zigged z) (l0 : -1024 ≤ last) (l1 : last ≤ 1023) : Sane (groupsS fd fa z last).flatten := by
  intro c hc
  obtain ⟨r, hr, hc⟩ := List.mem_flatten.1 hc
  obtain ⟨f0, f1⟩ := hz.first
  unfold groupsS at hr
  rcases List.mem_cons.1 hr with rfl | hr
  · simp only [List.mem_cons, List.not_mem_nil, or_false] at hc
    have h1 := sizeS_nonneg (z.getD 0 0 - last)
    have h2 := sizeS_le (z.getD 0 0 - last) 11 (by omega) (by omega)
    rcases hc with rfl | rfl
    · exact sane_code hfd _ (by omega)
    · exact sane_tail _ (by omega)
  · exact grp_sane hfa _ 0 hz.tail r hr c hc
theorem grp_len (fa : Nat → Nat × Nat) : ∀ (l : List Int) (run : Nat), (grpS fa l run).flatten.length ≤ 3 * l.length + run + 1 ∧ (grpS fa l run).length ≤ l.length + 1
  | [], run => by
    unfold grpS
    split <;> simp
  | x :: t, run => by
    unfold grpS
    split
    · have := grp_len fa t (run + 1)
      simp only [List.length_cons]; omega
    · have := grp_len fa t 0
      simp only [List.flatten_cons, List.length_append, rowG, List.length_replicate, List.length_cons, List.length_nil]; omega
theorem groups_len {fd fa : Nat → Nat × Nat} {z : List Int} {last : Int} (hz : z.length = 64) : (groupsS fd fa z last).flatten.length ≤ 1000 ∧ (groupsS fd fa z last).length ≤ 100 := by
  have := grp_len fa (z.drop 1) 0
  have hl : (z.drop 1).length = 63 := by simp [hz]
  unfold groupsS
  simp only [List.flatten_cons, List.length_append, List.length_cons, List.length_nil]
  omega
end Go.Proofs.Ytbjcjddaaegheaa
