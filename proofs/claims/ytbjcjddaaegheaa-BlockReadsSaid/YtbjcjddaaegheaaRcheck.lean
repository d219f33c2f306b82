/- The reference's Check of a table. -/
import Derived.Test.YtbjcjddaaegheaaTab
import Derived.RegionTactic
import Derived.Deep.QuietTactic
import Derived.BigQuiet
namespace Go.Proofs.Ytbjcjddaaegheaa
open Go.RowKit

theorem nodup_more {vs : List Int} {i : Nat} (h : (vs.take i).Nodup) (hi : i < vs.length) (hne : ∀ m, m < i → vs.getD m 0 ≠ vs.getD i 0) : (vs.take (i + 1)).Nodup := by
  rw [List.take_succ_eq_append_getElem hi, List.nodup_append]
  refine ⟨h, by simp, fun a ha b hb => ?_⟩
  obtain rfl := List.mem_singleton.1 hb
  obtain ⟨m, hm, rfl⟩ := List.getElem_of_mem ha
  rw [List.length_take] at hm
  have := hne m (by omega)
  rw [List.getD_eq_getElem?_getD, List.getD_eq_getElem?_getD, List.getElem?_eq_getElem (by omega), List.getElem?_eq_getElem hi] at this
  rw [List.getElem_take]
  exact this
theorem nodup_not {vs : List Int} {i j : Nat} (hi : i < vs.length) (hj : j < i) (he : vs.getD j 0 = vs.getD i 0) : ¬ vs.Nodup := by
  intro h
  rw [List.getD_eq_getElem?_getD, List.getD_eq_getElem?_getD, List.getElem?_eq_getElem (by omega), List.getElem?_eq_getElem hi] at he
  exact List.pairwise_iff_getElem.1 h j i (by omega) hi hj (show vs[j] = vs[i] from he)

theorem rcheck_any (ct : List Int) (vs : List Int) (A : Option Addr) (len c : Nat) (W : World) (hct : ct.length = 16) (hw : ∀ x ∈ ct, (Lit.int .i64 x).wf = true) (hlen : vs.length = len) (hr : Reads W W.heap.size 1 A len (bytesV vs)) (hl : len ≤ 9223372036854775807) :
    Calls Try.prog 25 #[.agg (tabCells ct (.slice A len c))] W fun e w' => e = .returned (.bool (checkS ct vs)) ∧ Below W.heap.size W w' := by
  have hsz := tabCells_size ct (.slice A len c) hct
  have hat : ∀ i, i < 16 → (tabCells ct (.slice A len c))[i]? = some (.int .i64 (ct.getD i 0)) := fun i hi => tabCells_at ct _ i (by omega)
  have hla' := tabCells_last ct (.slice A len c) hct
  generalize tabCells ct (.slice A len c) = cells at *
  have hla : cells[16]'(by omega) = .slice A len c := by rw [Array.getElem?_eq_getElem (by omega)] at hla'; exact Option.some.inj hla'
  clear hla'
  have hrc : ∀ i, i < 16 → ct.drop i = ct.getD i 0 :: ct.drop (i + 1) := fun i hi => by
    rw [List.drop_eq_getElem_cons (by omega), List.getD_eq_getElem?_getD, List.getElem?_eq_getElem (by omega)]; rfl
  have hwf : ∀ i, i < 16 → (Lit.int .i64 (ct.getD i 0)).wf = true := fun i hi => by
    rw [List.getD_eq_getElem?_getD, List.getElem?_eq_getElem (by omega : i < ct.length)]
    exact hw _ (List.getElem_mem _)
  obtain ⟨R, hR⟩ : ∃ R, R = rcheck1 ct 0 0 0 := ⟨_, rfl⟩
  have hS : checkS ct vs = checkEnd vs R := by rw [hR]; rfl
  rw [hS]
  have HRC := Lib.hid hrc
  have HW := Lib.hid hwf
  have HAT := Lib.hid hat
  have hd0 : ct.drop 0 = ct := rfl
  have hdn : ct.drop 16 = [] := List.drop_of_length_le (by omega)
  have HDN := Lib.hid hdn
  rw [← hd0] at hR
  have HR := Lib.hid hR
  clear hrc hwf hat hw hS hd0 hR hdn hct
  go_enter Try.func25, Try.ntmps25
  go_wp2_with fail
  go_loop [3, 4, 5, 6] (fun n code left k => ∃ (i : Nat) (n' code' : Int), i ≤ 16 ∧ k = .int .i64 i ∧ n = .int .i64 n' ∧ code = .int .i64 code' ∧ left = .int .i64 (2 ^ i) ∧ 0 ≤ n' ∧ n' ≤ 255 * i ∧ 0 ≤ code' ∧ code' ≤ 2 ^ i - 1 ∧ R = rcheck1 (ct.drop i) i n' code') (fun _ _ _ k => 16 - (intOf k).toNat)
  case atStart => exact ⟨0, 0, 0, by omega, rfl, rfl, rfl, rfl, by omega, by omega, by omega, by simp, HR.out⟩
  case round =>
    obtain ⟨i, n, code, hi, rfl, rfl, rfl, rfl, n0, n1, k0, k1, hRi⟩ := hrel
    have HRi := Lib.hid hRi
    clear hRi
    by_cases hlt : i < 16
    · have hx := HAT.out i hlt
      have hwf := HW.out i hlt
      have hd := HRC.out i hlt
      have hR2 := HRi.out
      rw [hd] at hR2
      obtain ⟨x, hxd⟩ : ∃ x, x = ct.getD i 0 := ⟨_, rfl⟩
      rw [← hxd] at hx hwf hR2
      clear hxd hd
      obtain ⟨x0, x1⟩ : -9223372036854775808 ≤ x ∧ x ≤ 9223372036854775807 := by
        simp [Lit.wf, IntKind.min, IntKind.max, IntKind.signed, IntKind.bits] at hwf; omega
      have hxc : cells[i]'(by omega) = Value.int .i64 x := by
        rw [Array.getElem?_eq_getElem (by omega)] at hx; exact Option.some.inj hx
      have p1 := pow_le_int i 16 (by omega)
      have p2 := pow_succ_nat i
      have p3 := pow_pos_int i
      have HR2 := Lib.hid hR2
      clear hR2 hx hwf
      have P2 := Lib.hid p2
      clear p2
      by_cases hneg : x < 0
      · have hRn : R = none := by rw [HR2.out, rcheck1, if_pos (Or.inl hneg)]
        subst hRn
        go_wp2_with fail
        go_ret
        exact ⟨rfl, (Below.refl _ _).alloc (Nat.le_refl _) _⟩
      · by_cases hbig : 255 < x
        · have hRn : R = none := by rw [HR2.out, rcheck1, if_pos (Or.inr hbig)]
          subst hRn
          go_wp2_with fail
          go_ret
          exact ⟨rfl, (Below.refl _ _).alloc (Nat.le_refl _) _⟩
        · by_cases hov : 0 < x ∧ 2 * (2 : Int) ^ i - 1 < 2 * code + x
          · have hRn : R = none := by rw [HR2.out, rcheck1, if_neg (by omega), if_pos (by rw [P2.out]; exact hov)]
            obtain ⟨ho1, ho2⟩ := hov
            subst hRn
            go_wp2_with fail
            go_ret
            exact ⟨rfl, (Below.refl _ _).alloc (Nat.le_refl _) _⟩
          · have hRn : R = rcheck1 (ct.drop (i + 1)) (i + 1) (n + x) (2 * code + x) := by rw [HR2.out, rcheck1, if_neg (by omega), if_neg (by rw [P2.out]; exact hov)]
            have HR3 := Lib.hid hRn
            clear hRn
            by_cases hx0 : 0 < x
            · have hov : ¬ 2 * (2 : Int) ^ i - 1 < 2 * code + x := fun h => hov ⟨hx0, h⟩
              go_wp2_with fail
              go_round
              case rel => exact ⟨i + 1, n + x, 2 * code + x, by omega, by go_num, rfl, rfl, by rw [P2.out], by omega, by omega, by omega, by rw [P2.out]; omega, HR3.out⟩
              case measure => simp [intOf]; omega
            · obtain rfl : x = 0 := by omega
              clear hov
              go_wp2_with fail
              go_round
              case rel => exact ⟨i + 1, n, 2 * code, by omega, by go_num, by go_num, by go_num, by rw [P2.out], by omega, by omega, by omega, by rw [P2.out]; omega, by simpa using HR3.out⟩
              case measure => simp [intOf]; omega
    · obtain rfl : i = 16 := by omega
      have hRn : R = some n := by rw [HRi.out, HDN.out, rcheck1]
      subst hRn
      clear HRi HR HRC HAT HW
      by_cases hnl : n = (len : Int)
      · subst hnl
        by_cases hn256 : 256 < len
        · have hE : checkEnd vs (some (len : Int)) = false := by
            have : ¬ (len : Int) ≤ 256 := by omega
            simp [checkEnd, this]
          have HE := Lib.hid hE
          clear hE
          go_wp2_with fail
          go_ret
          exact ⟨by rw [HE.out]; first | done | rfl, (Below.refl _ _).alloc (Nat.le_refl _) _⟩
        · have hl256 : len ≤ 256 := by omega
          have hE : checkEnd vs (some (len : Int)) = decide vs.Nodup := by
            have h1 : (len : Int) ≤ 256 := by omega
            simp [checkEnd, h1, hlen]
          have HE := Lib.hid hE
          clear hE
          have hbl : Blk (W.alloc (.cells cells 27)) W.heap.size 27 cells := Blk.new W 27 cells
          have hbe : Below W.heap.size W (W.alloc (.cells cells 27)) := (Below.refl _ _).alloc (Nat.le_refl _) _
          go_wp2_with fail
          go_loopw [7] (fun k (w : World) => ∃ i : Nat, i ≤ len ∧ k = .int .i64 i ∧ (vs.take i).Nodup ∧ Blk w W.heap.size 27 cells ∧ Below W.heap.size W w) (fun k _ => len - (intOf k).toNat)
          case atStart => exact ⟨0, by omega, rfl, by simp, hbl, hbe⟩
          case round =>
            obtain ⟨i, hi, rfl, hnd, hbl, hbe⟩ := hrel
            by_cases hlt : i < len
            · go_wp2_with fail
              go_loopw [8] (fun k (w : World) => ∃ j : Nat, j ≤ i ∧ k = .int .i64 j ∧ (∀ m, m < j → vs.getD m 0 ≠ vs.getD i 0) ∧ Blk w W.heap.size 27 cells ∧ Below W.heap.size W w) (fun k _ => i - (intOf k).toNat)
              case atStart => exact ⟨0, by omega, rfl, (fun m h => absurd h (by omega)), hbl, hbe⟩
              case round =>
                obtain ⟨j, hj, rfl, hne, hbl, hbe⟩ := hrel
                have HNE := Lib.hid hne
                clear hne
                by_cases hlt2 : j < i
                · have hrw := hr.below hbe
                  obtain ⟨ad, u, rfl, _, hx, hcx⟩ := hrw.at_ (k := i) hlt
                  obtain ⟨ad', u', had, _, hy, hcy⟩ := hrw.at_ (k := j) (by omega)
                  obtain rfl : ad = ad' := by injection had
                  have hx' : vs[i]? = some (vs.getD i 0) := by rw [List.getD_eq_getElem?_getD, List.getElem?_eq_getElem (by omega)]; rfl
                  have hy' : vs[j]? = some (vs.getD j 0) := by rw [List.getD_eq_getElem?_getD, List.getElem?_eq_getElem (by omega)]; rfl
                  obtain rfl : u = .int .u8 (vs.getD i 0) := by
                    rw [bytesV, List.getElem?_map, hx'] at hx; simpa using hx.symm
                  obtain rfl : u' = .int .u8 (vs.getD j 0) := by
                    rw [bytesV, List.getElem?_map, hy'] at hy; simpa using hy.symm
                  have hc16 : wr.cell? ⟨W.heap.size, 16, none⟩ = some (.slice (some ad) len c) := by
                    rw [hbl.cell, Array.getElem?_eq_getElem (by omega), hla]
                  obtain ⟨X, hX⟩ : ∃ X, X = vs.getD i 0 := ⟨_, rfl⟩
                  obtain ⟨Y, hY⟩ : ∃ Y, Y = vs.getD j 0 := ⟨_, rfl⟩
                  rw [← hX] at hcx
                  rw [← hY] at hcy
                  have HX := Lib.hid hX
                  have HY := Lib.hid hY
                  clear hX hY hx hy hx' hy' had hrw
                  have t0 : (0 : Int) ≤ (i : Int) := Int.natCast_nonneg _
                  have t1 : (i : Int) < (len : Int) := by omega
                  have t2 : (0 : Int) ≤ (j : Int) := Int.natCast_nonneg _
                  have t3 : (j : Int) < (len : Int) := by omega
                  by_cases hXY : Y = X
                  · subst hXY
                    have hN : decide vs.Nodup = false := by
                      simp only [decide_eq_false_iff_not]
                      exact nodup_not (by omega) hlt2 (by rw [← HX.out, ← HY.out])
                    have HE2 := Lib.hid (HE.out.trans hN)
                    clear hN
                    have hbe2 := hbe.drew
                    go_wp2_with fail
                    go_region
                    go_wp2_with fail
                    go_ret
                    exact ⟨by rw [HE2.out]; first | done | rfl, hbe2⟩
                  · have hxy : (Y == X) = false := by simp; exact hXY
                    go_wp2_with fail
                    go_region
                    go_wp2_with fail
                    go_round
                    case rel =>
                      refine ⟨j + 1, by omega, by go_num, fun m hm => ?_, hbl.drew, hbe.drew⟩
                      rcases Nat.lt_or_ge m j with h | h
                      · exact HNE.out m h
                      · obtain rfl : m = j := by omega
                        rw [← HX.out, ← HY.out]; exact hXY
                    case measure => simp [intOf]; omega
                · obtain rfl : j = i := by omega
                  go_wp2_with fail
                  go_round
                  case rel => exact ⟨j + 1, by omega, by go_num, nodup_more hnd (by omega) HNE.out, hbl, hbe⟩
                  case measure => simp [intOf]; omega
            · obtain rfl : i = len := by omega
              rw [List.take_of_length_le (by omega)] at hnd
              have HE2 := Lib.hid (HE.out.trans (decide_eq_true hnd))
              go_wp2_with fail
              go_ret
              exact ⟨by rw [HE2.out]; first | done | rfl, hbe⟩
      · have hE : checkEnd vs (some n) = false := by
          have : ¬ n = (vs.length : Int) := by rw [hlen]; exact hnl
          simp [checkEnd, this]
        have hnl2 : (n == (len : Int)) = false := by simp; exact hnl
        have HE := Lib.hid hE
        clear hE
        go_wp2_with fail
        go_ret
        exact ⟨by rw [HE.out]; first | done | rfl, (Below.refl _ _).alloc (Nat.le_refl _) _⟩
end Go.Proofs.Ytbjcjddaaegheaa
