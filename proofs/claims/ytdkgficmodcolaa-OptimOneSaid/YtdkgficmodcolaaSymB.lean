/- symMergeCmpFunc where the right part is one alone: it is put in its place. -/
import Derived.Test.YtdkgficmodcolaaSymA
namespace Go.Proofs.Ytdkgficmodcolaa
open Go.RowKit

set_option maxRecDepth 100000 in
set_option maxHeartbeats 800000 in
theorem sym_b (base g cap sb : Nat) (s : List Int) (xs : List Nat) (a m b : Nat) (W : World) (h : Rw W base g cap xs sb s) (h1 : a < m) (hm1 : m ≠ a + 1) (hb : b = m + 1) (h3 : b ≤ xs.length) (s1 : Srt (keyS s) xs a m) : SymC base g cap sb s xs a m b W := by
  unfold SymC
  obtain ⟨len, hlen⟩ : ∃ len, len = xs.length := ⟨_, rfl⟩
  have hfew := h.few
  rw [← hlen] at h3 hfew ⊢
  have HLEN := Lib.hid hlen
  have HS1 := Lib.hid s1
  have HB := Lib.hid hb
  have hst := FindR.start (keyS s) xs a m (keyS s (xs.getD m 0)) (by omega)
  have e18 : ∀ args w, (callFunc 18 args).run Try.prog w = .ok (.enter 18 args) w := enters_of Try.func18 (by kernel_rfl) rfl
  have hm1' : ((m : Int) - (a : Int) == 1) = false := by simp; omega
  have hb1' : ((b : Int) - (m : Int) == 1) = true := by simp; omega
  have hmb : m < b := by omega
  clear hlen s1 hb hm1
  go_enter Try.func32, Try.ntmps32
  go_wp2_with fail
  go_loopw [14, 15] (fun v10 v11 (w : World) => ∃ (i j : Nat), v10 = .int .i64 i ∧ v11 = .int .i64 j ∧ Rw w base g cap xs sb s ∧ FindR (keyS s) xs a m (keyS s (xs.getD m 0)) i j ∧ W.grownBy w (some g)) (fun v10 v11 _ => (intOf v11).toNat - (intOf v10).toNat)
  case atStart => exact ⟨a, m, rfl, rfl, h, hst, World.grownBy.refl _ _⟩
  case round =>
    clear h hst
    obtain ⟨i, j, rfl, rfl, h, hst, hg⟩ := hrel
    have i1 := hst.ai
    have i2 := hst.ij
    have i3 := hst.jm
    by_cases hlt : i < j
    · obtain ⟨q, hq⟩ : ∃ q, q = (i + j) / 2 := ⟨_, rfl⟩
      have ej : ((i : Int) + (j : Int)) / 2 = (q : Int) := by omega
      have hq1 : i ≤ q ∧ q < j := by omega
      obtain ⟨q1, q2⟩ := hq1
      have c1 := h.cell (i := m) (by rw [← HLEN.out]; omega)
      have c2 := h.cell (i := q) (by rw [← HLEN.out]; omega)
      have KC : ∀ n, _ := fun n => h.cmp m q n
      obtain ⟨x, hx⟩ : ∃ x, x = xs.getD m 0 := ⟨_, rfl⟩
      obtain ⟨y, hy⟩ : ∃ y, y = xs.getD q 0 := ⟨_, rfl⟩
      rw [← hx] at c1 KC hst
      rw [← hy] at c2 KC
      obtain ⟨cr, hcr⟩ : ∃ cr, cr = cmpS (s.getD x 0) (s.getD y 0) := ⟨_, rfl⟩
      rw [← hcr] at KC
      have hcr2 := cmpS_lt (s.getD x 0) (s.getD y 0)
      rw [← hcr] at hcr2
      have HST := Lib.hid hst
      have HX := Lib.hid hx
      have HY := Lib.hid hy
      have HKC := Lib.hid KC
      have HCR := Lib.hid hcr2
      have hql : (q : Int) < (len : Int) := by omega
      have hml : (m : Int) < (len : Int) := by omega
      clear KC hx hy hst hq hcr hcr2
      go_wp2_with fail
      go_quiet (first | (go_at_call 18; exact HKC.out _))
      have h2' := h.drewN nq
      have hg2 := hg.trans (drewN_grown wr nq (some g))
      clear c1 c2 h hg HKC
      generalize wr.drewN nq = w2 at *
      go_wp2_with fail
      · have hc0 : ¬ cr < 0 := by rename_i hcc; simpa using hcc
        have hn := HST.out.up HS1.out q1 q2 (by rw [← HY.out]; exact Int.not_lt.1 (fun h => hc0 (HCR.out.2 h)))
        rw [HX.out] at hn
        go_roundw
        case rel => exact ⟨q + 1, j, by go_num, rfl, h2', hn, hg2⟩
        case measure => simp [intOf]; omega
      · have hc0 : cr < 0 := by rename_i hcc; simpa using hcc
        have hn := HST.out.down HS1.out q1 q2 (by rw [← HY.out]; exact HCR.out.1 hc0)
        rw [HX.out] at hn
        go_roundw
        case rel => exact ⟨i, q, rfl, rfl, h2', hn, hg2⟩
        case measure => simp [intOf]; omega
    · obtain rfl : i = j := by omega
      have hmv := MovD.start xs a b m
      have HST := Lib.hid hst
      clear hst
      go_wp2_with fail
      go_loopw [17] (fun v13 (w : World) => ∃ (k : Nat) (zs : List Nat), i ≤ k ∧ k ≤ m ∧ v13 = .int .i64 k ∧ Rw w base g cap zs sb s ∧ MovD xs zs a b m k ∧ W.grownBy w (some g)) (fun v13 _ => (intOf v13).toNat)
      case atStart => exact ⟨m, xs, by omega, by omega, rfl, h, hmv, hg⟩
      case round =>
        clear h hmv hg
        obtain ⟨k, zs, k1, k2, rfl, h, hmv, hg⟩ := hrel
        have hzl : zs.length = len := by rw [hmv.inn.len, HLEN.out]
        have HZL := Lib.hid hzl
        clear hzl
        by_cases hk : i < k
        · have hki : (i : Int) < (k : Int) := by omega
          obtain ⟨q, hq⟩ : ∃ q, k = q + 1 := ⟨k - 1, by omega⟩
          have ek : (k : Int) - 1 = (q : Int) := by omega
          have c1 := h.cell (i := k) (by rw [HZL.out]; omega)
          have c2 := h.cell (i := q) (by rw [HZL.out]; omega)
          have f1 := h.frozen k
          obtain ⟨hsw, hgs⟩ := h.swap (i := k) (j := q) (by rw [HZL.out]; omega) (by rw [HZL.out]; omega)
          have hst : MovD xs (swapL zs k q) a b m q := by rw [hq]; exact MovD.step (by rw [← hq]; exact hmv) (by omega) (by omega) hmb (by rw [← HLEN.out]; omega)
          generalize zs.getD k 0 = x at *
          generalize zs.getD q 0 = y at *
          have c3 : (wr.setCell ⟨g, k, none⟩ (.int .u8 (y : Int))).cell? ⟨g, q, none⟩ = some (.int .u8 (y : Int)) := (World.cell?_setCell_other _ _ _ _ (fun h => by injection h with _ h2; omega)).trans c2
          have f3 : (wr.setCell ⟨g, k, none⟩ (.int .u8 (y : Int))).frozen? ⟨g, q, none⟩ = false := by simpa using h.frozen q
          have hg3 := hg.trans hgs
          have HHSW := Lib.hid hsw
          have hql : (q : Int) < (len : Int) := by omega
          have hkl : (k : Int) < (len : Int) := by omega
          have hq2 : q ≤ m := by omega
          have hq3 : i ≤ q := by omega
          have hq4 : q < k := by omega
          clear h hmv hg hgs hsw hq
          go_wp2_with fail
          go_region
          go_wp2_with fail
          go_roundw
          case rel => exact ⟨q, _, hq3, hq2, by go_num, HHSW.out.drewN 1, hst, hg3.trans (drewN_grown _ 1 _)⟩
          case measure => simp [intOf]; omega
        · obtain rfl : k = i := by omega
          have hdone : Srt (keyS s) zs a b := by
            have h5 := hmv
            rw [HB.out] at h5 ⊢
            exact h5.done HST.out HS1.out
          have HIN := Lib.hid hmv.inn
          clear hmv
          go_wp2_with fail
          exact bodyPost_ret (results_none rfl _ _ _) rfl ⟨rfl, zs, h, HIN.out, hdone, hg⟩
end Go.Proofs.Ytdkgficmodcolaa
