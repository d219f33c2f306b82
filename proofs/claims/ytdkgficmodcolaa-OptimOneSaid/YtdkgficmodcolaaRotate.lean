/- rotateCmpFunc: two neighbouring ranges are exchanged. -/
import Derived.Test.YtdkgficmodcolaaSortMath
namespace Go.Proofs.Ytdkgficmodcolaa
open Go.RowKit

set_option maxRecDepth 100000 in
set_option maxHeartbeats 800000 in
theorem rotate_any (base g cap sb : Nat) (s : List Int) (xs : List Nat) (a m b : Nat) (W : World) (h : Rw W base g cap xs sb s) (h1 : a < m) (h2 : m < b) (h3 : b ≤ xs.length) (hf : Value) :
    Calls Try.prog 33 #[rowV g xs.length cap, .int .i64 a, .int .i64 m, .int .i64 b, hf] W fun e w' => e = .returned (.tuple #[]) ∧ ∃ ys, Rw w' base g cap ys sb s ∧ RotS xs ys a m b ∧ W.grownBy w' (some g) := by
  have hst := RotI.start xs a m b h1 h2 h3
  obtain ⟨len, hlen⟩ : ∃ len, len = xs.length := ⟨_, rfl⟩
  have hfew := h.few
  rw [← hlen] at h3 hfew ⊢
  have HLEN := Lib.hid hlen
  clear hlen
  go_enter Try.func33, Try.ntmps33
  go_wp2_with fail
  go_loopw [10, 11] (fun v5 v6 (w : World) => ∃ (i j : Nat) (ys : List Nat), v5 = .int .i64 i ∧ v6 = .int .i64 j ∧ Rw w base g cap ys sb s ∧ RotI xs ys a m b i j ∧ W.grownBy w (some g)) (fun v5 v6 _ => (intOf v5).toNat + (intOf v6).toNat)
  case atStart => exact ⟨m - a, b - m, xs, by go_num, by go_num, h, hst, World.grownBy.refl _ _⟩
  case round =>
    clear h hst
    obtain ⟨i, j, ys, rfl, rfl, h, hst, hg⟩ := hrel
    have i0 := hst.i0
    have j0 := hst.j0
    have ia := hst.ia
    have jb := hst.jb
    have hyl : ys.length = len := by rw [hst.len, HLEN.out]
    have K : ∀ (p q n : Nat), p + n ≤ len → q + n ≤ len → p ≠ q → _ := fun p q n q1 q2 q3 => swapRange_any base g cap sb s ys p q n wr h (by omega) (by omega) q3 hf
    rw [hyl] at K
    have HK := Lib.hid K
    have HST := Lib.hid hst
    clear K hst
    rcases Nat.lt_trichotomy i j with hij | hij | hij
    · have hne : ((i : Int) != (j : Int)) = true := by simp; omega
      have e1 : ((m - i : Nat) : Int) = (m : Int) - (i : Int) := by omega
      have e2 : ((m + j - i : Nat) : Int) = (m : Int) + (j : Int) - (i : Int) := by omega
      have K2 := HK.out (m - i) (m + j - i) i (by omega) (by omega) (by omega)
      rw [e1, e2] at K2
      have HK2 := Lib.hid K2
      clear K2 e1 e2 HK
      go_wp2_with fail
      refine HK2.out.mono ?_
      rintro e w2 ⟨rfl, h2, hg2⟩
      go_wp2_with fail
      go_roundw
      case rel => exact ⟨i, j - i, _, rfl, by go_num, h2, HST.out.right hij, hg.trans hg2⟩
      case measure => simp [intOf]; omega
    · subst hij
      have e1 : ((m - i : Nat) : Int) = (m : Int) - (i : Int) := by omega
      have K2 := HK.out (m - i) m i (by omega) (by omega) (by omega)
      rw [e1] at K2
      have hne : ((i : Int) != (i : Int)) = false := by simp
      have HK2 := Lib.hid K2
      clear K2 e1 HK
      go_wp2_with fail
      refine HK2.out.mono ?_
      rintro e w2 ⟨rfl, h2, hg2⟩
      go_wp2_with fail
      exact bodyPost_end (results_none rfl _ _ _) rfl ⟨rfl, _, h2, HST.out.done, hg.trans hg2⟩
    · have hne : ((i : Int) != (j : Int)) = true := by simp; omega
      have e1 : ((m - i : Nat) : Int) = (m : Int) - (i : Int) := by omega
      have K2 := HK.out (m - i) m j (by omega) (by omega) (by omega)
      rw [e1] at K2
      have HK2 := Lib.hid K2
      clear K2 e1 HK
      go_wp2_with fail
      refine HK2.out.mono ?_
      rintro e w2 ⟨rfl, h2, hg2⟩
      go_wp2_with fail
      go_roundw
      case rel => exact ⟨i - j, j, _, by go_num, rfl, h2, HST.out.left hij, hg.trans hg2⟩
      case measure => simp [intOf]; omega
end Go.Proofs.Ytdkgficmodcolaa
