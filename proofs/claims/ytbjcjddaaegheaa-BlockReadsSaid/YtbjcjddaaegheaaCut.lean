/- Bytes cut off: what reads on fewer bytes reads alike on more: in plain lists. -/
import Derived.Test.YtbjcjddaaegheaaStdF
import Derived.Test.YtbjcjddaaegheaaBitsW
namespace Go.Proofs.Ytbjcjddaaegheaa
open Go.RowKit

theorem bitAt_take (bs : List Int) (m i : Nat) (h : i < 8 * m) : bitAt (bs.take m) i = bitAt bs i := by
  unfold bitAt
  rw [List.getD_eq_getElem?_getD, List.getD_eq_getElem?_getD, List.getElem?_take, if_pos (by omega)]
theorem peekS_take (bs : List Int) (m p : Nat) : ∀ n, p + n ≤ 8 * m → peekS (bs.take m) p n = peekS bs p n
  | 0, _ => rfl
  | n + 1, h => by rw [peekS, peekS, peekS_take bs m p n (by omega), bitAt_take _ _ _ (by omega)]
theorem peekR_take {bs : List Int} {m : Nat} (hm : m ≤ bs.length) {at_ n v : Int} (h : peekR (bs.take m) at_ n = some v) : peekR bs at_ n = some v := by
  have hl : (bs.take m).length = m := by rw [List.length_take]; omega
  obtain ⟨_, _, b0, b1, b2, b3⟩ := peekR_bd h
  rw [hl] at b3
  unfold peekR at h ⊢
  rw [if_pos (by rw [hl]; omega), peekS_take _ _ _ _ (by omega)] at h
  rw [if_pos (by omega)]
  exact h
theorem codeS_take {bs : List Int} {m : Nat} (hm : m ≤ bs.length) {at_ : Int} {f : Nat → Nat × Nat} (hf : PF f) (ha : 0 ≤ at_) {v : Nat} (h : codeS (bs.take m) at_ f = some v) : codeS bs at_ f = some v := by
  obtain ⟨h1, h2, _⟩ := codeS_some h
  obtain ⟨h3, h4⟩ := hitB_pos h2
  obtain ⟨p, rfl⟩ : ∃ p : Nat, at_ = (p : Int) := ⟨at_.toNat, by omega⟩
  refine codeS_hit hf h1 ?_
  unfold hitB
  rw [peekR_take hm h4]
  simp [h3]
theorem dcS_take {bs : List Int} {m : Nat} (hm : m ≤ bs.length) {at_ last : Int} {f : Nat → Nat × Nat} (hf : PF f) (ha : 0 ≤ at_) {r : Int × Int} (h : dcS (bs.take m) at_ last f = some r) : dcS bs at_ last f = some r ∧ 0 ≤ r.2 ∧ r.2 ≤ 8 * m := by
  have hl : (bs.take m).length = m := by rw [List.length_take]; omega
  unfold dcS at h ⊢
  split at h
  · cases h
  · rename_i s hs
    rw [codeS_take hm hf ha hs]
    simp only
    split at h
    · cases h
    · rename_i h11
      rw [if_neg h11]
      split at h
      · cases h
      · rename_i x hx
        have hb := peekR_bd hx
        rw [peekR_take hm hx]
        simp only
        split at h
        · cases h
        · rename_i hw
          rw [if_neg hw]
          injection h with h
          subst h
          refine ⟨rfl, ?_, ?_⟩
          · simp only; omega
          · simp only; rw [hl] at hb; omega
theorem acS_take {bs : List Int} {m : Nat} (hm : m ≤ bs.length) {f : Nat → Nat × Nat} (hf : PF f) : ∀ (n k : Nat) (at_ : Int) (z : List Int) (r : List Int × Int), 0 ≤ at_ → at_ ≤ 8 * m → acS (bs.take m) f n k at_ z = some r → acS bs f n k at_ z = some r ∧ r.2 ≤ 8 * m
  | 0, k, at_, z, r, a0, a1, h => by
    simp only [acS, Option.some.injEq] at h ⊢
    subst h
    exact ⟨rfl, a1⟩
  | n + 1, k, at_, z, r, a0, a1, h => by
    have hl : (bs.take m).length = m := by rw [List.length_take]; omega
    unfold acS at h ⊢
    split at h
    · rename_i hk
      rw [if_pos hk]
      split at h
      · cases h
      · rename_i v hv
        have hat := codeS_at hv
        rw [hl] at hat
        rw [codeS_take hm hf a0 hv]
        simp only
        split at h
        · rename_i h0
          rw [if_pos h0]
          injection h with h
          subst h
          exact ⟨rfl, by simp only; omega⟩
        · rename_i h0
          rw [if_neg h0]
          split at h
          · cases h
          · rename_i h64
            rw [if_neg h64]
            split at h
            · rename_i h240
              rw [if_pos h240]
              split at h
              · rename_i h63
                rw [if_pos h63]
                exact acS_take hm hf n _ _ _ _ (by omega) (by omega) h
              · cases h
            · rename_i h240
              rw [if_neg h240]
              split at h
              · cases h
              · rename_i hs
                rw [if_neg hs]
                split at h
                · cases h
                · rename_i x hx
                  have hb := peekR_bd hx
                  rw [hl] at hb
                  rw [peekR_take hm hx]
                  simp only
                  exact acS_take hm hf n _ _ _ _ (by omega) (by omega) h
    · rename_i hk
      rw [if_neg hk]
      injection h with h
      subst h
      exact ⟨rfl, a1⟩
theorem readS_take {bs : List Int} {m : Nat} (hm : m ≤ bs.length) {at_ last : Int} {fd fa : Nat → Nat × Nat} (hd : PF fd) (ha : PF fa) (h0 : 0 ≤ at_) {r : List Int × Int} (h : readS (bs.take m) at_ last fd fa = some r) : readS bs at_ last fd fa = some r ∧ r.2 ≤ 8 * m := by
  unfold readS at h ⊢
  split at h
  · cases h
  · rename_i d a hda
    obtain ⟨h1, h2, h3⟩ := dcS_take hm hd h0 hda
    rw [h1]
    simp only
    exact acS_take hm ha _ _ _ _ _ h2 h3 h

/-- the bits of a block, in its bytes and in those with more behind -/
theorem holds_pack (X Y : List Bool) (rest : List Int) : Holds (packB (X ++ Y) ++ rest) X.length Y := by
  have hl := packB_length (X ++ Y)
  rw [List.length_append] at hl
  refine ⟨by rw [List.length_append, hl]; omega, fun i hi => ?_⟩
  have e : bitAt (packB (X ++ Y) ++ rest) (X.length + i) = bitAt (packB (X ++ Y)) (X.length + i) := by
    unfold bitAt
    rw [List.getD_eq_getElem?_getD, List.getD_eq_getElem?_getD, List.getElem?_append_left (by rw [hl]; omega)]
  rw [e]
  unfold packB at hl ⊢
  rw [bitAt_padded _ _ _ (by rw [List.length_append]; omega), List.getD_eq_getElem?_getD, List.getD_eq_getElem?_getD, List.getElem?_append_right (by omega), show X.length + i - X.length = i by omega]
theorem Zigged.set0 {z : List Int} (hz : Zigged z) (x : Int) (h0 : -1024 ≤ x) (h1 : x ≤ 1023) : Zigged (z.set 0 x) := by
  refine ⟨by simp [hz.len], ?_, fun i hi => ?_⟩
  · rw [List.getD_eq_getElem?_getD, List.getElem?_set_self (by rw [hz.len]; omega)]; exact ⟨h0, h1⟩
  · rw [List.getD_eq_getElem?_getD, List.getElem?_set_ne (by omega), ← List.getD_eq_getElem?_getD]; exact hz.all i hi
theorem set_getD (z : List Int) : z.set 0 (z.getD 0 0) = z := by cases z <;> simp
theorem codesB_pos {fd fa : Nat → Nat × Nat} (hd : FullD fd) (z : List Int) (last : Int) (h : (z.getD 0 0 - last).natAbs ≤ 2047) : 0 < (codesB (groupsS fd fa z last).flatten).length := by
  have h1 := sizeS_nonneg (z.getD 0 0 - last)
  have h2 := sizeS_le (z.getD 0 0 - last) 11 (by omega) (by omega)
  have := hd.has (sizeS (z.getD 0 0 - last)).toNat (by omega)
  unfold groupsS
  rw [List.flatten_cons, codesB_append, codesB_cons, List.length_append, List.length_append, codeB_len]
  omega
/-- what Read says of a block's own bytes, whatever lies behind, and whatever the number before -/
theorem bits_read (part : Int) {z : List Int} (hz : Zigged z) {last l2 : Int} (l0 : -1024 ≤ last) (l1 : last ≤ 1023) (b0 : -1024 ≤ z.getD 0 0 - last + l2) (b1 : z.getD 0 0 - last + l2 ≤ 1023) (rest : List Int) :
    blockRead (bitsS (stdP part) z last ++ rest) 0 l2 (dcC (stdP part)) (stdV 0 (stdP part)) (acC (stdP part)) (stdV 1 (stdP part)) =
      some (z.set 0 (z.getD 0 0 - last + l2), ((codesB (groupsS (dcF (stdP part)) (acF (stdP part)) z last).flatten).length : Int)) := by
  have hp := stdP_01 part
  unfold blockRead
  rw [if_neg (by rw [show dcC (stdP part) = natsI (stdC 0 (stdP part)) from rfl, show acC (stdP part) = natsI (stdC 1 (stdP part)) from rfl, std_check 0 _ (.inl rfl) hp, std_check 1 _ (.inr rfl) hp]; simp)]
  have h := holds_pack [] (codesB (groupsS (dcF (stdP part)) (acF (stdP part)) z last).flatten) rest
  have := read_back (dcF_full _ hp) (acF_full _ hp) (l2 := l2) hz l0 l1 b0 b1 h
  rw [List.length_nil, List.nil_append, Nat.zero_add] at this
  exact this
/-- what Read says of a block's bytes cut off -/
theorem bits_cut (part : Int) {z : List Int} (hz : Zigged z) {last l2 : Int} (l0 : -1024 ≤ last) (l1 : last ≤ 1023) (b0 : -1024 ≤ z.getD 0 0 - last + l2) (b1 : z.getD 0 0 - last + l2 ≤ 1023) (m : Nat) (hm : m < (bitsS (stdP part) z last).length) :
    blockRead ((bitsS (stdP part) z last).take m) 0 l2 (dcC (stdP part)) (stdV 0 (stdP part)) (acC (stdP part)) (stdV 1 (stdP part)) = none := by
  have hp := stdP_01 part
  have h1 := bits_read part hz (l2 := l2) l0 l1 b0 b1 []
  rw [List.append_nil] at h1
  cases h : blockRead ((bitsS (stdP part) z last).take m) 0 l2 (dcC (stdP part)) (stdV 0 (stdP part)) (acC (stdP part)) (stdV 1 (stdP part)) with
  | none => rfl
  | some r =>
    exfalso
    unfold blockRead at h h1
    split at h
    · cases h
    · rename_i hc
      rw [if_neg hc] at h1
      obtain ⟨h2, h3⟩ := readS_take (by omega) (dcF_full _ hp).pf (acF_full _ hp).pf (by omega) h
      rw [show codesF (dcC (stdP part)) (stdV 0 (stdP part)) = dcF (stdP part) from rfl, show codesF (acC (stdP part)) (stdV 1 (stdP part)) = acF (stdP part) from rfl] at h1
      rw [h1] at h2
      injection h2 with h2
      subst h2
      simp only at h3
      unfold bitsS at hm
      rw [packB_length] at hm
      omega
end Go.Proofs.Ytbjcjddaaegheaa
