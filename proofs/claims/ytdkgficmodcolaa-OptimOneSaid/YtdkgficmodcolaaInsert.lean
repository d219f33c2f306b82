/- insertionSortCmpFunc: a range is sorted. -/
import Derived.Test.YtdkgficmodcolaaInsM
namespace Go.Proofs.Ytdkgficmodcolaa
open Go.RowKit

abbrev keyS (s : List Int) (x : Nat) : Int := s.getD x 0
set_option maxRecDepth 100000 in
set_option maxHeartbeats 800000 in
theorem insert_any (base g cap sb : Nat) (s : List Int) (xs : List Nat) (a b : Nat) (W : World) (h : Rw W base g cap xs sb s) (h1 : a ≤ b) (h3 : b ≤ xs.length) :
    Calls Try.prog 31 #[rowV g xs.length cap, .int .i64 a, .int .i64 b, cmpV sb] W fun e w' => e = .returned (.tuple #[]) ∧ ∃ ys, Rw w' base g cap ys sb s ∧ Inn xs ys a b ∧ Srt (keyS s) ys a b ∧ W.grownBy w' (some g) := by
  obtain ⟨len, hlen⟩ : ∃ len, len = xs.length := ⟨_, rfl⟩
  have hfew := h.few
  rw [← hlen] at h3 hfew ⊢
  have HLEN := Lib.hid hlen
  clear hlen
  go_enter Try.func31, Try.ntmps31
  go_wp2_with fail
  go_loopw [8] (fun v10 (w : World) => ∃ (i : Nat) (ys : List Nat), a + 1 ≤ i ∧ (i ≤ b ∨ i = a + 1) ∧ v10 = .int .i64 i ∧ Rw w base g cap ys sb s ∧ Inn xs ys a b ∧ Srt (keyS s) ys a i ∧ W.grownBy w (some g)) (fun v10 _ => b - (intOf v10).toNat)
  case atStart => exact ⟨a + 1, xs, by omega, by omega, by go_num, h, Inn.refl _ _ _, Srt.one _ _ _ _ (by omega), World.grownBy.refl _ _⟩
  case round =>
    clear h
    obtain ⟨i, ys, hi1, hi2, rfl, h, hin, hso, hg⟩ := hrel
    by_cases hlt : i < b
    · have hst := InsI.start hso
      clear hso
      go_wp2_with fail
      go_loopw [9] (fun v9 (w : World) => ∃ (j : Nat) (zs : List Nat), a ≤ j ∧ j ≤ i ∧ v9 = .int .i64 j ∧ Rw w base g cap zs sb s ∧ Inn xs zs a b ∧ InsI (keyS s) zs a i j ∧ W.grownBy w (some g)) (fun v9 _ => (intOf v9).toNat)
      case atStart => exact ⟨i, ys, by omega, by omega, rfl, h, hin, hst, hg⟩
      case round =>
        clear h hin hst hg
        obtain ⟨j, zs, hj1, hj2, rfl, h, hin, hst, hg⟩ := hrel
        have hzl : zs.length = len := by rw [hin.len, HLEN.out]
        have HZL := Lib.hid hzl
        clear hzl
        have e18 : ∀ args w, (callFunc 18 args).run Try.prog w = .ok (.enter 18 args) w := enters_of Try.func18 (by kernel_rfl) rfl
        by_cases haj : a < j
        · obtain ⟨q, hq⟩ : ∃ q, q = j - 1 := ⟨_, rfl⟩
          have ej : (j : Int) - 1 = (q : Int) := by omega
          have c1 := h.cell (i := j) (by rw [HZL.out]; omega)
          have c2 := h.cell (i := q) (by rw [HZL.out]; omega)
          have KC : ∀ n, _ := fun n => h.cmp j q n
          have HST := Lib.hid hst
          obtain ⟨x, hx⟩ : ∃ x, x = zs.getD j 0 := ⟨_, rfl⟩
          obtain ⟨y, hy⟩ : ∃ y, y = zs.getD q 0 := ⟨_, rfl⟩
          rw [← hx] at c1 KC
          rw [← hy] at c2 KC
          obtain ⟨cr, hcr⟩ : ∃ cr, cr = cmpS (s.getD x 0) (s.getD y 0) := ⟨_, rfl⟩
          rw [← hcr] at KC
          have HX := Lib.hid hx
          have HY := Lib.hid hy
          have HKC := Lib.hid KC
          have HCR := Lib.hid hcr
          have HQ := Lib.hid hq
          have hqj : q + 1 = j := by omega
          have HQJ := Lib.hid hqj
          have hql : (q : Int) < (len : Int) := by omega
          have hjl : (j : Int) < (len : Int) := by omega
          clear KC hx hy hst hq hqj hcr
          go_wp2_with fail
          go_quiet (first | (go_at_call 18; exact HKC.out _))
          have h2 := h.drewN nq
          have hg2 := hg.trans (drewN_grown wr nq (some g))
          clear c1 c2 h hg HKC
          generalize wr.drewN nq = w2 at *
          by_cases hc0 : cr < 0
          · have c1 := h2.cell (i := j) (by rw [HZL.out]; omega)
            have c2 := h2.cell (i := q) (by rw [HZL.out]; omega)
            have f1 := h2.frozen j
            obtain ⟨hsw, hgs⟩ := h2.swap (i := j) (j := q) (by rw [HZL.out]; omega) (by rw [HZL.out]; omega)
            rw [← HX.out] at c1 hsw hgs
            rw [← HY.out] at c2 hsw hgs
            have c3 : (w2.setCell ⟨g, j, none⟩ (.int .u8 (y : Int))).cell? ⟨g, q, none⟩ = some (.int .u8 (y : Int)) := (World.cell?_setCell_other _ _ _ _ (fun h => by injection h with _ h2; omega)).trans c2
            have f3 : (w2.setCell ⟨g, j, none⟩ (.int .u8 (y : Int))).frozen? ⟨g, q, none⟩ = false := by simpa using h2.frozen q
            have hin2 := hin.trans (Inn.swap zs (a := a) (b := b) (i := j) (j := q) (by omega) (by omega) (by rw [HZL.out]; omega) (by omega))
            have hst2 := HST.out.step haj hj2 (by rw [HZL.out]; omega) (by rw [← HQ.out, ← HX.out, ← HY.out]; exact (cmpS_lt _ _).1 (by rw [← HCR.out]; exact hc0))
            rw [← HQ.out] at hst2
            have hg3 := hg2.trans hgs
            have HHSW := Lib.hid hsw
            clear h2 hin hgs hg2 hsw
            go_wp2_with fail
            go_region
            go_wp2_with fail
            go_roundw
            case rel => exact ⟨q, _, by omega, by omega, by go_num, HHSW.out.drewN 1, hin2, hst2, hg3.trans (drewN_grown _ 1 _)⟩
            case measure => simp [intOf]; omega
          · have hc1 : ¬ cr < 0 := hc0
            have hdone := HST.out.done (Or.inr (by rw [← HQ.out, ← HX.out, ← HY.out]; have := (cmpS_lt (s.getD x 0) (s.getD y 0)); rw [← HCR.out] at this; exact Int.not_lt.1 (fun h => hc1 (this.2 h))))
            go_wp2_with fail
            go_roundw
            case rel => exact ⟨i + 1, zs, by omega, by omega, by go_num, h2, hin, hdone, hg2⟩
            case measure => simp [intOf]; omega
        · have hdf : decide ((a : Int) < (j : Int)) = false := by simp; omega
          have hdone := hst.done (Or.inl (by omega))
          go_wp2_with fail
          go_quiet (fail)
          have h2 := h.drewN nq
          have hg2 := hg.trans (drewN_grown wr nq (some g))
          clear h hg
          generalize wr.drewN nq = w2 at *
          go_wp2_with fail
          go_roundw
          case rel => exact ⟨i + 1, zs, by omega, by omega, by go_num, h2, hin, hdone, hg2⟩
          case measure => simp [intOf]; omega
    · have hso2 := hso.sub (Nat.le_refl a) (b' := b) (by omega)
      go_wp2_with fail
      exact bodyPost_end (results_none rfl _ _ _) rfl ⟨rfl, ys, h, hin, hso2, hg⟩
end Go.Proofs.Ytdkgficmodcolaa
