/- The four Standard tables: no code begins as another; each code that a block may need is there. -/
import Derived.Test.YtbjcjddaaegheaaRTrip
import Derived.Test.YtbjcjddaaegheaaTabAt
namespace Go.Proofs.Ytbjcjddaaegheaa
open Go.RowKit

def pfL (pre : List (Nat × Nat × Nat)) : Bool := pre.all fun e => pre.all fun e' => !(decide (e.2.1 ≤ e'.2.1) && e'.2.2 / 2 ^ (e'.2.1 - e.2.1) == e.2.2) || e.1 == e'.1
def posL (pre : List (Nat × Nat × Nat)) : Bool := pre.all fun e => decide (0 < e.2.1) && decide (e.2.2 < 2 ^ e.2.1)
theorem pfL_spec {pre : List (Nat × Nat × Nat)} (h : pfL pre = true) {e e' : Nat × Nat × Nat} (h1 : e ∈ pre) (h2 : e' ∈ pre) (hl : e.2.1 ≤ e'.2.1) (hd : e'.2.2 / 2 ^ (e'.2.1 - e.2.1) = e.2.2) : e.1 = e'.1 := by
  have := List.all_eq_true.1 (List.all_eq_true.1 h e h1) e' h2
  simpa [hl, hd] using this
theorem posL_spec {pre : List (Nat × Nat × Nat)} (h : posL pre = true) {e : Nat × Nat × Nat} (h1 : e ∈ pre) : 0 < e.2.1 ∧ e.2.2 < 2 ^ e.2.1 := by
  have := List.all_eq_true.1 h e h1
  simpa using this
theorem codeOf_pf (vs : List Int) {pre : List (Nat × Nat × Nat)} (h : pfL pre = true) : PF (codeOf vs pre) := by
  intro u v _ _ h0 hl hd
  rcases codeOf_cases vs pre u with hu | ⟨e, he, hev, hu⟩
  · rw [hu] at h0; simp at h0
  rcases codeOf_cases vs pre v with hv | ⟨e', he', hev', hv⟩
  · rw [hv] at hl; simp only at hl; omega
  rw [hu, hv] at hl hd
  have := pfL_spec h he he' hl hd
  rw [this, hev'] at hev
  omega
theorem codeOf_small (vs : List Int) {pre : List (Nat × Nat × Nat)} (h : posL pre = true) (v : Nat) : (codeOf vs pre v).2 < 2 ^ (codeOf vs pre v).1 := by
  rcases codeOf_cases vs pre v with hv | ⟨e, he, _, hv⟩
  · rw [hv]; simp
  · rw [hv]; exact (posL_spec h he).2
theorem codeOf_has_snoc (vs : List Int) (v : Nat) : ∀ (n : Nat) (pre : List (Nat × Nat × Nat)), pre.length = n → posL pre = true → (∃ e ∈ pre, vs.getD e.1 0 = (v : Int)) → 0 < (codeOf vs pre v).1
  | 0, pre, hn, _, h => by
    obtain ⟨e, he, _⟩ := h
    rw [List.eq_nil_of_length_eq_zero hn] at he
    cases he
  | n + 1, pre, hn, hp, h => by
    obtain ⟨pre', x, rfl⟩ : ∃ p x, pre = p ++ [x] := ⟨pre.dropLast, pre.getLast (by intro e; rw [e] at hn; cases hn), (List.dropLast_concat_getLast _).symm⟩
    rw [codeOf_snoc]
    split
    · exact (posL_spec hp (by simp)).1
    · rename_i hx
      refine codeOf_has_snoc vs v n pre' (by simpa using hn) ?_ ?_
      · unfold posL at hp ⊢
        rw [List.all_append, Bool.and_eq_true] at hp
        exact hp.1
      · obtain ⟨e, he, hev⟩ := h
        rcases List.mem_append.1 he with h1 | h1
        · exact ⟨e, h1, hev⟩
        · obtain rfl := List.mem_singleton.1 h1
          exact absurd hev hx
theorem codeOf_has {vs : List Int} {pre : List (Nat × Nat × Nat)} (hp : posL pre = true) (hi : pre.map (·.1) = List.range vs.length) {v : Nat} (h : (v : Int) ∈ vs) : 0 < (codeOf vs pre v).1 := by
  obtain ⟨i, hi1, hi2⟩ := mem_of_getD h
  have : i ∈ pre.map (·.1) := by rw [hi]; simpa using hi1
  obtain ⟨e, he, rfl⟩ := List.mem_map.1 this
  exact codeOf_has_snoc vs v _ pre rfl hp ⟨e, he, hi2⟩
def p01 (p : Nat) : Prop := p = 0 ∨ p = 1
theorem stdP_01 (part : Int) : p01 (stdP part) := by unfold stdP p01; split <;> simp
theorem std_check (c p : Nat) (hc : p01 c) (hp : p01 p) : checkS (natsI (stdC c p)) (stdV c p) = true := by
  rcases hc with rfl | rfl <;> rcases hp with rfl | rfl <;> decide +kernel
theorem std_pf (c p : Nat) (hc : p01 c) (hp : p01 p) : pfL (laidC (stdC c p) 0 0 0) = true := by
  rcases hc with rfl | rfl <;> rcases hp with rfl | rfl <;> decide +kernel
theorem std_pos (c p : Nat) (hc : p01 c) (hp : p01 p) : posL (laidC (stdC c p) 0 0 0) = true := by
  rcases hc with rfl | rfl <;> rcases hp with rfl | rfl <;> decide +kernel
theorem std_idx (c p : Nat) (hc : p01 c) (hp : p01 p) : (laidC (stdC c p) 0 0 0).map (·.1) = List.range (stdV c p).length := by
  rcases hc with rfl | rfl <;> rcases hp with rfl | rfl <;> decide +kernel
theorem std_dcv (p : Nat) (hp : p01 p) : ∀ s : Nat, s < 12 → ((s : Nat) : Int) ∈ stdV 0 p := by
  rcases hp with rfl | rfl <;> decide +kernel
theorem std_acv (p : Nat) (hp : p01 p) : ∀ r, r < 16 → ∀ s, s < 10 → ((16 * r + (s + 1) : Nat) : Int) ∈ stdV 1 p := by
  rcases hp with rfl | rfl <;> decide +kernel
theorem std_acx (p : Nat) (hp : p01 p) : ((0 : Nat) : Int) ∈ stdV 1 p ∧ ((240 : Nat) : Int) ∈ stdV 1 p := by
  rcases hp with rfl | rfl <;> decide +kernel
theorem dcF_full (p : Nat) (hp : p01 p) : FullD (dcF p) := by
  have h0 : p01 0 := .inl rfl
  have e : dcF p = codeOf (stdV 0 p) (laidC (stdC 0 p) 0 0 0) := codesF_yes _ _ (std_check 0 p h0 hp)
  refine ⟨⟨?_, ?_, ?_⟩, fun s hs => ?_⟩
  · rw [e]; exact codeOf_pf _ (std_pf 0 p h0 hp)
  · exact codesF_fits _ _ (by rcases hp with rfl | rfl <;> decide +kernel)
  · intro v _; rw [e]; exact codeOf_small _ (std_pos 0 p h0 hp) v
  · rw [e]; exact codeOf_has (std_pos 0 p h0 hp) (std_idx 0 p h0 hp) (std_dcv p hp s (by omega))
theorem acF_full (p : Nat) (hp : p01 p) : FullA (acF p) := by
  have h1 : p01 1 := .inr rfl
  have e : acF p = codeOf (stdV 1 p) (laidC (stdC 1 p) 0 0 0) := codesF_yes _ _ (std_check 1 p h1 hp)
  have hx := std_acx p hp
  refine ⟨⟨?_, ?_, ?_⟩, fun r s hr hs1 hs => ?_, ?_, ?_⟩
  · rw [e]; exact codeOf_pf _ (std_pf 1 p h1 hp)
  · exact codesF_fits _ _ (by rcases hp with rfl | rfl <;> decide +kernel)
  · intro v _; rw [e]; exact codeOf_small _ (std_pos 1 p h1 hp) v
  · rw [e]
    have := std_acv p hp r (by omega) (s - 1) (by omega)
    rw [show 16 * r + (s - 1 + 1) = 16 * r + s by omega] at this
    exact codeOf_has (std_pos 1 p h1 hp) (std_idx 1 p h1 hp) this
  · rw [e]; exact codeOf_has (std_pos 1 p h1 hp) (std_idx 1 p h1 hp) hx.1
  · rw [e]; exact codeOf_has (std_pos 1 p h1 hp) (std_idx 1 p h1 hp) hx.2
end Go.Proofs.Ytbjcjddaaegheaa
