/- symMergeCmpFunc, stableCmpFunc, SortStableFunc: a row of bytes is sorted by its sizes. -/
import Derived.Test.YtdkgficmodcolaaSymC
namespace Go.Proofs.Ytdkgficmodcolaa
open Go.RowKit

theorem sym_any (base g cap sb : Nat) (s : List Int) : ∀ (k : Nat) (xs : List Nat) (a m b : Nat) (W : World), b - a ≤ k → Rw W base g cap xs sb s → a < m → m < b → b ≤ xs.length → Srt (keyS s) xs a m → Srt (keyS s) xs m b → SymC base g cap sb s xs a m b W
  | 0, _, a, m, b, _, hk, _, h1, h2, _, _, _ => by omega
  | k + 1, xs, a, m, b, W, hk, h, h1, h2, h3, s1, s2 => by
    by_cases hm : m = a + 1
    · exact sym_a base g cap sb s xs a m b W h hm h2 h3 s2
    · by_cases hb : b = m + 1
      · exact sym_b base g cap sb s xs a m b W h h1 hm hb h3 s1
      · exact sym_c base g cap sb s xs a m b _ _ ((a + b) / 2 + m - 1) W h (by omega) (by omega) h3 s1 s2 rfl rfl (by omega) fun ys a' m' b' w hlt hw h1 h2 h3 s1 s2 => sym_any base g cap sb s k ys a' m' b' w (by omega) hw h1 h2 h3 s1 s2
/-- the first loop: blocks of twenty, up to a -/
def BlkA (f : Nat → Int) (ys : List Nat) (a : Nat) : Prop := ∀ q, (q + 1) * 20 ≤ a → Srt f ys (q * 20) ((q + 1) * 20)
theorem BlkA.step {f : Nat → Int} {ys zs : List Nat} {q : Nat} (h : BlkA f ys (q * 20)) (hi : Inn ys zs (q * 20) (q * 20 + 20)) (hs : Srt f zs (q * 20) (q * 20 + 20)) : BlkA f zs ((q + 1) * 20) := fun p hp => by
  by_cases e : p = q
  · subst e; rw [show (p + 1) * 20 = p * 20 + 20 by omega]; exact hs
  · exact (h p (by omega)).congr fun k k1 k2 => hi.out k (by omega)
def BlkN (f : Nat → Int) (ys : List Nat) (bs n : Nat) : Prop := ∀ q, Srt f ys (q * bs) (min ((q + 1) * bs) n)
theorem BlkA.last {f : Nat → Int} {ys zs : List Nat} {q n : Nat} (h : BlkA f ys (q * 20)) (hn : q * 20 ≤ n) (hn2 : n < q * 20 + 20) (hi : Inn ys zs (q * 20) n) (hs : Srt f zs (q * 20) n) : BlkN f zs 20 n := fun p => by
  rcases Nat.lt_trichotomy p q with e | e | e
  · rw [show min ((p + 1) * 20) n = (p + 1) * 20 by omega]
    exact (h p (by omega)).congr fun k k1 k2 => hi.out k (by omega)
  · subst e; rw [show min ((p + 1) * 20) n = n by omega]; exact hs
  · exact Srt.one _ _ _ _ (by omega)
/-- the second: pairs of blocks, up to the A-th -/
structure Mix (f : Nat → Int) (ys : List Nat) (bs A n : Nat) : Prop where
  lo : ∀ q, q < A → Srt f ys (q * (2 * bs)) ((q + 1) * (2 * bs))
  hi : ∀ q, 2 * A ≤ q → Srt f ys (q * bs) (min ((q + 1) * bs) n)
theorem Mix.start {f : Nat → Int} {ys : List Nat} {bs n : Nat} (h : BlkN f ys bs n) : Mix f ys bs 0 n := ⟨fun q hq => by omega, fun q _ => h q⟩
theorem Mix.left {f : Nat → Int} {ys : List Nat} {bs A n a : Nat} (h : Mix f ys bs A n) (ha : a = A * (2 * bs)) (hn : a + bs ≤ n) : Srt f ys a (a + bs) := by
  have := h.hi (2 * A) (Nat.le_refl _)
  have e1 : 2 * A * bs = a := by rw [ha, ← Nat.mul_assoc, Nat.mul_comm A 2]
  have e2 : (2 * A + 1) * bs = a + bs := by rw [Nat.add_mul, e1, Nat.one_mul]
  rw [e1, e2, Nat.min_eq_left hn] at this
  exact this
theorem Mix.right {f : Nat → Int} {ys : List Nat} {bs A n a : Nat} (h : Mix f ys bs A n) (ha : a = A * (2 * bs)) : Srt f ys (a + bs) (min (a + 2 * bs) n) := by
  have := h.hi (2 * A + 1) (by omega)
  have e1 : 2 * A * bs = a := by rw [ha, ← Nat.mul_assoc, Nat.mul_comm A 2]
  have e2 : (2 * A + 1) * bs = a + bs := by rw [Nat.add_mul, e1, Nat.one_mul]
  have e3 : (2 * A + 1 + 1) * bs = a + 2 * bs := by rw [Nat.add_mul, e2, Nat.one_mul]; omega
  rw [e2, e3] at this
  exact this
theorem Mix.step {f : Nat → Int} {ys zs : List Nat} {bs A n a : Nat} (h : Mix f ys bs A n) (ha : a = A * (2 * bs)) (hi : Inn ys zs a (a + 2 * bs)) (hs : Srt f zs a (a + 2 * bs)) : Mix f zs bs (A + 1) n := by
  refine ⟨fun q hq => ?_, fun q hq => ?_⟩
  · by_cases e : q = A
    · subst e; rw [← ha, Nat.add_mul, ← ha, Nat.one_mul]; exact hs
    · have h1 : (q + 1) * (2 * bs) ≤ A * (2 * bs) := Nat.mul_le_mul_right _ (by omega)
      exact (h.lo q (by omega)).congr fun k k1 k2 => hi.out k (by omega)
  · have h1 : (2 * (A + 1)) * bs ≤ q * bs := Nat.mul_le_mul_right _ hq
    have e1 : (2 * (A + 1)) * bs = a + 2 * bs := by rw [ha, Nat.mul_comm 2, Nat.mul_assoc, Nat.add_mul, Nat.one_mul]
    exact (h.hi q (by omega)).congr fun k k1 k2 => hi.out k (by omega)
theorem Mix.lastM {f : Nat → Int} {ys zs : List Nat} {bs A n a : Nat} (h : Mix f ys bs A n) (ha : a = A * (2 * bs)) (hn : a ≤ n) (hn2 : n < a + 2 * bs) (hi : Inn ys zs a n) (hs : Srt f zs a n) : BlkN f zs (2 * bs) n := fun q => by
  rcases Nat.lt_trichotomy q A with e | e | e
  · have h1 : (q + 1) * (2 * bs) ≤ A * (2 * bs) := Nat.mul_le_mul_right _ (by omega)
    rw [Nat.min_eq_left (by omega)]
    exact (h.lo q e).congr fun k k1 k2 => hi.out k (by omega)
  · subst e; rw [← ha, Nat.add_mul, ← ha, Nat.one_mul, Nat.min_eq_right (by omega)]; exact hs
  · have h1 : (A + 1) * (2 * bs) ≤ q * (2 * bs) := Nat.mul_le_mul_right _ (by omega)
    rw [Nat.add_mul, ← ha, Nat.one_mul] at h1
    exact Srt.one _ _ _ _ (by omega)
theorem Mix.lastN {f : Nat → Int} {ys : List Nat} {bs A n a : Nat} (h : Mix f ys bs A n) (ha : a = A * (2 * bs)) (hb : 0 < bs) (hn : a ≤ n) (hn2 : n ≤ a + bs) : BlkN f ys (2 * bs) n := by
  refine h.lastM ha hn ?_ (Inn.refl _ _ _) ?_
  · omega
  · have := h.hi (2 * A) (Nat.le_refl _)
    have e1 : 2 * A * bs = a := by rw [ha, ← Nat.mul_assoc, Nat.mul_comm A 2]
    have e2 : (2 * A + 1) * bs = a + bs := by rw [Nat.add_mul, e1, Nat.one_mul]
    rw [e1, e2, Nat.min_eq_right hn2] at this
    exact this
theorem BlkN.all {f : Nat → Int} {ys : List Nat} {bs n : Nat} (h : BlkN f ys bs n) (hn : n ≤ bs) : Srt f ys 0 n := by
  have := h 0
  rw [Nat.zero_mul, Nat.zero_add, Nat.one_mul, Nat.min_eq_right hn] at this
  exact this

set_option maxRecDepth 100000 in
set_option maxHeartbeats 800000 in
theorem stable_any (base g cap sb : Nat) (s : List Int) (xs : List Nat) (W : World) (h : Rw W base g cap xs sb s) :
    Calls Try.prog 26 #[rowV g xs.length cap, .int .i64 xs.length, cmpV sb] W fun e w' => e = .returned (.tuple #[]) ∧ ∃ ys, Rw w' base g cap ys sb s ∧ ys.Perm xs ∧ Srt (keyS s) ys 0 xs.length ∧ W.grownBy w' (some g) := by
  obtain ⟨len, hlen⟩ : ∃ len, len = xs.length := ⟨_, rfl⟩
  have hfew := h.few
  rw [← hlen] at hfew ⊢
  have HLEN := Lib.hid hlen
  clear hlen
  go_enter Try.func26, Try.ntmps26
  go_wp2_with fail
  go_loopw [7, 8] (fun v7 v8 (w : World) => ∃ (q : Nat) (ys : List Nat), q * 20 ≤ len ∧ v7 = .int .i64 (q * 20 : Nat) ∧ v8 = .int .i64 (q * 20 + 20 : Nat) ∧ Rw w base g cap ys sb s ∧ ys.Perm xs ∧ BlkA (keyS s) ys (q * 20) ∧ W.grownBy w (some g)) (fun v7 _ _ => len - (intOf v7).toNat)
  case atStart => exact ⟨0, xs, by omega, rfl, rfl, h, List.Perm.refl _, fun q hq => by omega, World.grownBy.refl _ _⟩
  case round =>
    clear h
    obtain ⟨q, ys, hq, rfl, rfl, h, hpm, hbl, hg⟩ := hrel
    have hyl : ys.length = len := by rw [hpm.length_eq, HLEN.out]
    have HYL := Lib.hid hyl
    have HBL := Lib.hid hbl
    have HPM := Lib.hid hpm
    obtain ⟨a, ha⟩ : ∃ a, a = q * 20 := ⟨_, rfl⟩
    rw [← ha] at hq ⊢
    obtain ⟨b, hb⟩ : ∃ b, b = a + 20 := ⟨_, rfl⟩
    rw [← hb]
    have HA := Lib.hid ha
    have HB := Lib.hid hb
    clear hyl hbl hpm
    by_cases hlt : b ≤ len
    · have KI := insert_any base g cap sb s ys a b wr h (by omega) (by rw [HYL.out]; exact hlt)
      rw [HYL.out] at KI
      have HKI := Lib.hid KI
      clear KI ha hb
      go_wp2_with fail
      refine HKI.out.mono ?_
      rintro e w2 ⟨rfl, zs, hz, hin, hso, hg2⟩
      have hst := HBL.out.step (by rw [← HA.out, ← HB.out]; exact hin) (by rw [← HA.out, ← HB.out]; exact hso)
      have HIN := Lib.hid hin
      have HST := Lib.hid hst
      clear h hin hst hso
      go_wp2_with fail
      go_roundw
      case rel => exact ⟨q + 1, zs, by have := HA.out; have := HB.out; omega, by have := HA.out; have := HB.out; go_num, by have := HA.out; have := HB.out; go_num, hz, HIN.out.perm.trans HPM.out, HST.out, hg.trans hg2⟩
      case measure => have := HA.out; have := HB.out; simp [intOf]; omega
    · have KI := insert_any base g cap sb s ys a len wr h (by omega) (by rw [HYL.out]; exact Nat.le_refl _)
      rw [HYL.out] at KI
      have HKI := Lib.hid KI
      clear KI ha hb
      go_wp2_with fail
      refine HKI.out.mono ?_
      rintro e w2 ⟨rfl, zs, hz, hin, hso, hg2⟩
      have hst := HBL.out.last (n := len) (by rw [← HA.out]; exact hq) (by have := HA.out; have := HB.out; omega) (by rw [← HA.out]; exact hin) (by rw [← HA.out]; exact hso)
      have hg3 := hg.trans hg2
      have hpz := hin.perm.trans HPM.out
      clear h hin hso hg hg2 HKI HA HB HBL HYL HPM hq hlt
      go_wp2_with fail
      go_loopw [6, 7, 8] (fun v6 _ _ (w : World) => ∃ (bs : Nat) (ys : List Nat), v6 = .int .i64 bs ∧ 20 ≤ bs ∧ bs ≤ 600 ∧ Rw w base g cap ys sb s ∧ ys.Perm xs ∧ BlkN (keyS s) ys bs len ∧ W.grownBy w (some g)) (fun v6 _ _ _ => len - (intOf v6).toNat)
      case atStart => exact ⟨20, zs, rfl, by omega, by omega, hz, hpz, hst, hg3⟩
      case round =>
        clear hz hst hg3 hpz
        obtain ⟨bs, ys, rfl, b1, b2, h, hpm, hbl, hg⟩ := hrel
        have HBL := Lib.hid hbl
        have HPM := Lib.hid hpm
        clear hbl hpm
        by_cases hlt : bs < len
        · have hmx := HBL.out
          have hmx2 := Mix.start hmx
          have HMX := Lib.hid hmx2
          clear hmx hmx2
          go_wp2_with fail
          go_loopw [7, 8] (fun v7 v8 (w : World) => ∃ (A a b : Nat) (ys : List Nat), a = A * (2 * bs) ∧ b = a + 2 * bs ∧ a ≤ len ∧ v7 = .int .i64 a ∧ v8 = .int .i64 b ∧ Rw w base g cap ys sb s ∧ ys.Perm xs ∧ Mix (keyS s) ys bs A len ∧ W.grownBy w (some g)) (fun v7 _ _ => len - (intOf v7).toNat)
          case atStart => exact ⟨0, 0, 2 * bs, ys, by simp, by omega, by omega, rfl, by go_num, h, HPM.out, HMX.out, hg⟩
          case round =>
            clear h hg HBL HPM HMX
            obtain ⟨A, a, b, ys, ha, hb, hal, rfl, rfl, h, hpm, hmx, hg⟩ := hrel
            have hyl : ys.length = len := by rw [hpm.length_eq, HLEN.out]
            have HA := Lib.hid ha
            have HB := Lib.hid hb
            have HPM := Lib.hid hpm
            have HMX := Lib.hid hmx
            have HYL := Lib.hid hyl
            have hbl : b ≤ 1500 := by omega
            clear hpm hmx hyl ha
            by_cases hlt2 : b ≤ len
            · obtain ⟨m, hm⟩ : ∃ m, m = a + bs := ⟨_, rfl⟩
              have em : (a : Int) + (bs : Int) = (m : Int) := by omega
              have KS := sym_any base g cap sb s (b - a) ys a m b wr (Nat.le_refl _) h (by omega) (by omega) (by rw [HYL.out]; exact hlt2) (by rw [hm]; exact HMX.out.left HA.out (by omega)) (by
                have := HMX.out.right HA.out
                rw [Nat.min_eq_left (by omega), ← hb, ← hm] at this
                exact this)
              unfold SymC at KS
              rw [HYL.out] at KS
              have HKS := Lib.hid KS
              have HM := Lib.hid hm
              clear KS hm hb
              go_wp2_with fail
              refine HKS.out.mono ?_
              rintro e w2 ⟨rfl, zs, hz, hin, hso, hg2⟩
              have hst := HMX.out.step HA.out (by rw [← HB.out]; exact hin) (by rw [← HB.out]; exact hso)
              have HIN := Lib.hid hin
              have HST := Lib.hid hst
              clear h hin hst hso
              go_wp2_with fail
              go_roundw
              case rel => exact ⟨A + 1, b, b + 2 * bs, zs, by rw [Nat.add_mul, ← HA.out, Nat.one_mul]; exact HB.out, rfl, hlt2, rfl, by have := HB.out; go_num, hz, HIN.out.perm.trans HPM.out, HST.out, hg.trans hg2⟩
              case measure => have := HB.out; simp [intOf]; omega
            · obtain ⟨m, hm⟩ : ∃ m, m = a + bs := ⟨_, rfl⟩
              have em : (a : Int) + (bs : Int) = (m : Int) := by omega
              by_cases hml : m < len
              · have KS := sym_any base g cap sb s (len - a) ys a m len wr (Nat.le_refl _) h (by omega) (by omega) (by rw [HYL.out]; exact Nat.le_refl _) (by rw [hm]; exact HMX.out.left HA.out (by omega)) (by
                  have := HMX.out.right HA.out
                  rw [Nat.min_eq_right (by omega), ← hm] at this
                  exact this)
                unfold SymC at KS
                rw [HYL.out] at KS
                have HKS := Lib.hid KS
                have HM := Lib.hid hm
                clear KS hm hb
                go_wp2_with fail
                refine HKS.out.mono ?_
                rintro e w2 ⟨rfl, zs, hz, hin, hso, hg2⟩
                have hst := HMX.out.lastM HA.out (by omega) (by have := HB.out; omega) hin hso
                have HIN := Lib.hid hin
                have HST := Lib.hid hst
                clear h hin hst hso
                go_wp2_with fail
                go_roundw
                case rel => exact ⟨2 * bs, zs, by go_num, by omega, by omega, hz, HIN.out.perm.trans HPM.out, HST.out, hg.trans hg2⟩
                case measure => simp [intOf]; omega
              · have hst := HMX.out.lastN HA.out (by omega) hal (by omega)
                have HST := Lib.hid hst
                have HM := Lib.hid hm
                clear hst hm hb
                go_wp2_with fail
                go_roundw
                case rel => exact ⟨2 * bs, ys, by go_num, by omega, by omega, h, HPM.out, HST.out, hg⟩
                case measure => simp [intOf]; omega
        · have hall := HBL.out.all (by omega)
          go_wp2_with fail
          exact bodyPost_end (results_none rfl _ _ _) rfl ⟨rfl, ys, h, HPM.out, hall, hg⟩
set_option maxRecDepth 100000 in
theorem sort_any (base g cap sb : Nat) (s : List Int) (xs : List Nat) (W : World) (h : Rw W base g cap xs sb s) :
    Calls Try.prog 17 #[rowV g xs.length cap, cmpV sb] W fun e w' => e = .returned (.tuple #[]) ∧ ∃ ys, Rw w' base g cap ys sb s ∧ ys.Perm xs ∧ Srt (keyS s) ys 0 xs.length ∧ W.grownBy w' (some g) := by
  have KS := stable_any base g cap sb s xs W h
  have hfew := h.few
  obtain ⟨len, hlen⟩ : ∃ len, len = xs.length := ⟨_, rfl⟩
  rw [← hlen] at hfew KS ⊢
  have HKS := Lib.hid KS
  clear hlen KS
  go_enter Try.func17, Try.ntmps17
  go_wp2_with fail
  refine HKS.out.mono ?_
  rintro e w2 ⟨rfl, ys, h1, h2, h3, h4⟩
  go_wp2_with fail
  exact bodyPost_end (results_none rfl _ _ _) rfl ⟨rfl, ys, h1, h2, h3, h4⟩
set_option maxRecDepth 100000 in
theorem insert_nil (sb : Nat) (W : World) : Calls Try.prog 31 #[.slice none 0 0, .int .i64 0, .int .i64 0, cmpV sb] W fun e w' => e = .returned (.tuple #[]) ∧ W = w' := by
  go_enter Try.func31, Try.ntmps31
  go_wp2_with fail
  go_loopw [8] (fun v8 (w : World) => v8 = .int .i64 1 ∧ W = w) (fun _ _ => 0)
  case atStart => exact ⟨by go_num, rfl⟩
  case round =>
    obtain ⟨rfl, rfl⟩ := hrel
    go_wp2_with fail
    exact bodyPost_end (results_none rfl _ _ _) rfl ⟨rfl, rfl⟩
set_option maxRecDepth 100000 in
theorem stable_nil (sb : Nat) (W : World) : Calls Try.prog 26 #[.slice none 0 0, .int .i64 0, cmpV sb] W fun e w' => e = .returned (.tuple #[]) ∧ W = w' := by
  go_enter Try.func26, Try.ntmps26
  go_wp2_with fail
  go_loopw [7, 8] (fun v7 v8 (w : World) => v7 = .int .i64 0 ∧ v8 = .int .i64 20 ∧ W = w) (fun _ _ _ => 0)
  case atStart => exact ⟨rfl, rfl, rfl⟩
  case round =>
    obtain ⟨rfl, rfl, rfl⟩ := hrel
    go_wp2_with fail
    refine (insert_nil sb W).mono ?_
    rintro e w2 ⟨rfl, rfl⟩
    go_wp2_with fail
    go_loopw [6, 7, 8] (fun v6 _ _ (w : World) => v6 = .int .i64 20 ∧ W = w) (fun _ _ _ _ => 0)
    case atStart => exact ⟨rfl, rfl⟩
    case round =>
      obtain ⟨rfl, rfl⟩ := hrel
      go_wp2_with fail
      exact bodyPost_end (results_none rfl _ _ _) rfl ⟨rfl, rfl⟩
set_option maxRecDepth 100000 in
theorem sort_nil (sb : Nat) (W : World) : Calls Try.prog 17 #[.slice none 0 0, cmpV sb] W fun e w' => e = .returned (.tuple #[]) ∧ W = w' := by
  go_enter Try.func17, Try.ntmps17
  go_wp2_with fail
  refine (stable_nil sb W).mono ?_
  rintro e w2 ⟨rfl, rfl⟩
  go_wp2_with fail
  exact bodyPost_end (results_none rfl _ _ _) rfl ⟨rfl, rfl⟩
end Go.Proofs.Ytdkgficmodcolaa
