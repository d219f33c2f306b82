/- symMergeCmpFunc where the left part is one alone: it is put in its place. -/
import Derived.Test.YtdkgficmodcolaaSymM
namespace Go.Proofs.Ytdkgficmodcolaa
open Go.RowKit

/-- what is said of a call -/
def SymC (base g cap sb : Nat) (s : List Int) (xs : List Nat) (a m b : Nat) (W : World) : Prop :=
  Calls Try.prog 32 #[rowV g xs.length cap, .int .i64 a, .int .i64 m, .int .i64 b, cmpV sb] W fun e w' => e = .returned (.tuple #[]) ∧ ∃ ys, Rw w' base g cap ys sb s ∧ Inn xs ys a b ∧ Srt (keyS s) ys a b ∧ W.grownBy w' (some g)

set_option maxRecDepth 100000 in
set_option maxHeartbeats 800000 in
theorem sym_a (base g cap sb : Nat) (s : List Int) (xs : List Nat) (a m b : Nat) (W : World) (h : Rw W base g cap xs sb s) (hm : m = a + 1) (h2 : m < b) (h3 : b ≤ xs.length) (s2 : Srt (keyS s) xs m b) : SymC base g cap sb s xs a m b W := by
  unfold SymC
  obtain ⟨len, hlen⟩ : ∃ len, len = xs.length := ⟨_, rfl⟩
  have hfew := h.few
  rw [← hlen] at h3 hfew ⊢
  have HLEN := Lib.hid hlen
  have HS2 := Lib.hid s2
  have HM := Lib.hid hm
  have hst := FindL.start (keyS s) xs m b (keyS s (xs.getD a 0)) (by omega)
  have e18 : ∀ args w, (callFunc 18 args).run Try.prog w = .ok (.enter 18 args) w := enters_of Try.func18 (by kernel_rfl) rfl
  have hm1' : ((m : Int) - (a : Int) == 1) = true := by simp; omega
  have ham : a < m := by omega
  clear hlen s2 hm
  go_enter Try.func32, Try.ntmps32
  go_wp2_with fail
  go_loopw [10, 11] (fun v10 v11 (w : World) => ∃ (i j : Nat), v10 = .int .i64 i ∧ v11 = .int .i64 j ∧ Rw w base g cap xs sb s ∧ FindL (keyS s) xs m b (keyS s (xs.getD a 0)) i j ∧ W.grownBy w (some g)) (fun v10 v11 _ => (intOf v11).toNat - (intOf v10).toNat)
  case atStart => exact ⟨m, b, rfl, rfl, h, hst, World.grownBy.refl _ _⟩
  case round =>
    clear h hst
    obtain ⟨i, j, rfl, rfl, h, hst, hg⟩ := hrel
    have i1 := hst.mi
    have i2 := hst.ij
    have i3 := hst.jb
    by_cases hlt : i < j
    · obtain ⟨q, hq⟩ : ∃ q, q = (i + j) / 2 := ⟨_, rfl⟩
      have ej : ((i : Int) + (j : Int)) / 2 = (q : Int) := by omega
      have hq1 : i ≤ q ∧ q < j := by omega
      obtain ⟨q1, q2⟩ := hq1
      have c1 := h.cell (i := q) (by rw [← HLEN.out]; omega)
      have c2 := h.cell (i := a) (by rw [← HLEN.out]; omega)
      have KC : ∀ n, _ := fun n => h.cmp q a n
      obtain ⟨x, hx⟩ : ∃ x, x = xs.getD q 0 := ⟨_, rfl⟩
      obtain ⟨y, hy⟩ : ∃ y, y = xs.getD a 0 := ⟨_, rfl⟩
      rw [← hx] at c1 KC
      rw [← hy] at c2 KC hst
      obtain ⟨cr, hcr⟩ : ∃ cr, cr = cmpS (s.getD x 0) (s.getD y 0) := ⟨_, rfl⟩
      rw [← hcr] at KC
      have hcr2 := cmpS_lt (s.getD x 0) (s.getD y 0)
      rw [← hcr] at hcr2
      have HST := Lib.hid hst
      have HX := Lib.hid hx
      have HY := Lib.hid hy
      have HKC := Lib.hid KC
      have HCR := Lib.hid hcr2
      have hql : (q : Int) < (len : Int) := by omega
      have hal : (a : Int) < (len : Int) := by omega
      clear KC hx hy hst hq hcr hcr2
      go_wp2_with fail
      go_quiet (first | (go_at_call 18; exact HKC.out _))
      have h2' := h.drewN nq
      have hg2 := hg.trans (drewN_grown wr nq (some g))
      clear c1 c2 h hg HKC
      generalize wr.drewN nq = w2 at *
      by_cases hc0 : cr < 0
      · have hn := HST.out.up HS2.out q1 q2 (by rw [← HX.out]; exact HCR.out.1 hc0)
        rw [HY.out] at hn
        go_wp2_with fail
        go_roundw
        case rel => exact ⟨q + 1, j, by go_num, rfl, h2', hn, hg2⟩
        case measure => simp [intOf]; omega
      · have hn := HST.out.down HS2.out q1 q2 (by rw [← HX.out]; exact Int.not_lt.1 (fun h => hc0 (HCR.out.2 h)))
        rw [HY.out] at hn
        go_wp2_with fail
        go_roundw
        case rel => exact ⟨i, q, rfl, rfl, h2', hn, hg2⟩
        case measure => simp [intOf]; omega
    · obtain rfl : i = j := by omega
      have hmv := MovU.start xs a b
      have HST := Lib.hid hst
      clear hst
      go_wp2_with fail
      go_loopw [13] (fun v13 (w : World) => ∃ (k : Nat) (zs : List Nat), a ≤ k ∧ k ≤ i - 1 ∧ v13 = .int .i64 k ∧ Rw w base g cap zs sb s ∧ MovU xs zs a b k ∧ W.grownBy w (some g)) (fun v13 _ => i - (intOf v13).toNat)
      case atStart => exact ⟨a, xs, by omega, by omega, rfl, h, hmv, hg⟩
      case round =>
        clear h hmv hg
        obtain ⟨k, zs, k1, k2, rfl, h, hmv, hg⟩ := hrel
        have hzl : zs.length = len := by rw [hmv.inn.len, HLEN.out]
        have HZL := Lib.hid hzl
        clear hzl
        by_cases hk : k < i - 1
        · have hki : (k : Int) < (i : Int) - 1 := by omega
          obtain ⟨q, hq⟩ : ∃ q, q = k + 1 := ⟨_, rfl⟩
          have ek : (k : Int) + 1 = (q : Int) := by omega
          have c1 := h.cell (i := k) (by rw [HZL.out]; omega)
          have c2 := h.cell (i := q) (by rw [HZL.out]; omega)
          have f1 := h.frozen k
          obtain ⟨hsw, hgs⟩ := h.swap (i := k) (j := q) (by rw [HZL.out]; omega) (by rw [HZL.out]; omega)
          have hst := hmv.step k1 (by omega) (by rw [← HLEN.out]; omega)
          rw [← hq] at hst
          generalize zs.getD k 0 = x at *
          generalize zs.getD q 0 = y at *
          have c3 : (wr.setCell ⟨g, k, none⟩ (.int .u8 (y : Int))).cell? ⟨g, q, none⟩ = some (.int .u8 (y : Int)) := (World.cell?_setCell_other _ _ _ _ (fun h => by injection h with _ h2; omega)).trans c2
          have f3 : (wr.setCell ⟨g, k, none⟩ (.int .u8 (y : Int))).frozen? ⟨g, q, none⟩ = false := by simpa using h.frozen q
          have hg3 := hg.trans hgs
          have HHSW := Lib.hid hsw
          have hql : (q : Int) < (len : Int) := by omega
          have hkl : (k : Int) < (len : Int) := by omega
          have hq2 : q ≤ i - 1 := by omega
          have hq3 : a ≤ q := by omega
          have hq4 : k < q := by omega
          clear h hmv hg hgs hsw hq
          go_wp2_with fail
          go_region
          go_wp2_with fail
          go_roundw
          case rel => exact ⟨q, _, hq3, hq2, by go_num, HHSW.out.drewN 1, hst, hg3.trans (drewN_grown _ 1 _)⟩
          case measure => simp [intOf]; omega
        · obtain rfl : k = i - 1 := by omega
          have hki : ¬ ((i - 1 : Nat) : Int) < (i : Int) - 1 := by omega
          have hdone := hmv.done (by have := HST.out; rw [HM.out] at this; exact this) (by have := HS2.out; rw [HM.out] at this; exact this)
          have HIN := Lib.hid hmv.inn
          clear hmv
          go_wp2_with fail
          exact bodyPost_ret (results_none rfl _ _ _) rfl ⟨rfl, zs, h, HIN.out, hdone, hg⟩
end Go.Proofs.Ytdkgficmodcolaa
