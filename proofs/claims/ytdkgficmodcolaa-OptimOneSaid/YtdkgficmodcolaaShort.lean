/- shorten: codes that are too long are made shorter. -/
import Derived.Test.YtdkgficmodcolaaShortM
import Derived.Test.YtdkgficmodcolaaWeights
namespace Go.Proofs.Ytdkgficmodcolaa
open Go.RowKit

def cellI (w : World) (g i : Nat) : Int := match w.cell? ⟨g, i, none⟩ with
  | some (.int _ x) => x
  | _ => 0
theorem Blk.cellI {w : World} {g i : Nat} {n : List Int} {t : TypeId} (h : Blk w g t (intsC n)) (hi : i < n.length) : cellI w g i = n.getD i 0 := by
  unfold Go.Proofs.Ytdkgficmodcolaa.cellI
  rw [h.cell, intsC_at n i hi]
theorem Blk.setI {w : World} {g : Nat} {n : List Int} {t : TypeId} (h : Blk w g t (intsC n)) (i : Nat) (x : Int) : Blk (w.setCell ⟨g, i, none⟩ (.int .i64 x)) g t (intsC (n.set i x)) := by
  have := h.set_ i (.int .i64 x)
  rwa [intsC_set] at this
set_option maxRecDepth 100000 in
set_option maxHeartbeats 800000 in
theorem shorten_any (g : Nat) (n0 : List Int) (W : World) (hp : ShP n0) (hB : Blk W g 45 (intsC n0)) :
    Calls Try.prog 16 #[.slice (some ⟨g, 0, none⟩) 258 258] W fun e w' => e = .returned (.tuple #[]) ∧ ∃ n, ShI n0 n 16 ∧ Blk w' g 45 (intsC n) ∧ W.grownBy w' (some g) := by
  have hst := ShI.start hp
  have HP := Lib.hid hp
  clear hp
  go_enter Try.func16, Try.ntmps16
  go_wp2_with fail
  go_loopw [2, 3] (fun v2 _ (w : World) => ∃ (i : Nat) (n : List Int), 16 ≤ i ∧ i ≤ 257 ∧ v2 = .int .i64 i ∧ ShI n0 n i ∧ Blk w g 45 (intsC n) ∧ W.grownBy w (some g)) (fun v2 _ _ => (intOf v2).toNat)
  case atStart => exact ⟨257, n0, by omega, by omega, rfl, hst, hB, World.grownBy.refl _ _⟩
  case round =>
    clear hst hB
    obtain ⟨i, n, i1, i2, rfl, hst, hB, hg⟩ := hrel
    by_cases hlt : 16 < i
    · obtain ⟨q, hq⟩ : ∃ q, q = i - 1 := ⟨_, rfl⟩
      have eq1 : (i : Int) - 1 = (q : Int) := by omega
      obtain ⟨q2, hq2⟩ : ∃ q2, q2 = i - 2 := ⟨_, rfl⟩
      have eq2 : (i : Int) - 2 = (q2 : Int) := by omega
      have HQ := Lib.hid hq
      have HQ2 := Lib.hid hq2
      clear hq hq2
      go_wp2_with fail
      go_loopw [3] (fun _ (w : World) => ∃ n : List Int, ShI n0 n i ∧ Blk w g 45 (intsC n) ∧ W.grownBy w (some g)) (fun _ w => (cellI w g i).toNat)
      case atStart => exact ⟨n, hst, hB, hg⟩
      case round =>
        clear hst hB hg
        obtain ⟨n, hst, hB, hg⟩ := hrel
        have hl := hst.len
        have hme : cellI wr g i = n.getD i 0 := hB.cellI (by omega)
        have ci : wr.cell? ⟨g, i, none⟩ = some (.int .i64 (n.getD i 0)) := by rw [hB.cell]; exact intsC_at n i (by omega)
        have b0 := hst.nn i
        have b1 := hst.bd HP.out i
        obtain ⟨x, hx⟩ : ∃ x, x = n.getD i 0 := ⟨_, rfl⟩
        rw [← hx] at ci b0 b1 hme
        have HX := Lib.hid hx
        have HST := Lib.hid hst
        have HME := Lib.hid hme
        clear hx hst hme
        by_cases hpos : 0 < x
        · obtain ⟨j0, j1, j2, j3⟩ := HST.out.there HP.out hlt i2 (by rw [← HX.out]; exact hpos)
          have HJ3 := Lib.hid j3
          have j4 : j0 ≤ q2 := by have := HQ2.out; omega
          clear j3 j2
          go_wp2_with fail
          go_loopw [3] (fun v3 (w : World) => ∃ j : Nat, v3 = .int .i64 j ∧ j0 ≤ j ∧ j ≤ q2 ∧ w = wr) (fun v3 _ => (intOf v3).toNat)
          case atStart => exact ⟨q2, rfl, j4, Nat.le_refl _, rfl⟩
          case round =>
            obtain ⟨j, rfl, k1, k2, rfl⟩ := hrel
            have h3 := HQ2.out
            have h4 := HQ.out
            have cj : wr.cell? ⟨g, j, none⟩ = some (.int .i64 (n.getD j 0)) := by rw [hB.cell]; exact intsC_at n j (by omega)
            have y0 := HST.out.nn j
            have y1 := HST.out.bd HP.out j
            by_cases hz : n.getD j 0 = 0
            · rw [hz] at cj
              have hne : j0 ≠ j := fun e => by rw [e, hz] at HJ3; exact absurd HJ3.out (by decide)
              obtain ⟨j', hj'⟩ : ∃ j', j' = j - 1 := ⟨_, rfl⟩
              have ej : (j : Int) - 1 = (j' : Int) := by omega
              have HNE := Lib.hid hne
              have HJ := Lib.hid hj'
              clear hz hne y0 y1 h3 h4 hj'
              go_wp2_with fail
              go_roundw
              case rel => exact ⟨j', rfl, by have := HNE.out; have := HJ.out; omega, by have := HJ.out; omega, trivial⟩
              case measure => simp [intOf]; have := HNE.out; have := HJ.out; omega
            · have hstep := HST.out.step HP.out hlt i2 (by rw [← HX.out]; exact hpos) (j := j) (by omega) (by omega) (by omega) rfl rfl
              rw [← h4] at hstep
              obtain ⟨p, hpp⟩ : ∃ p, p = j + 1 := ⟨_, rfl⟩
              have ep : (j : Int) + 1 = (p : Int) := by omega
              rw [← hpp] at hstep
              have hB1 := hB.setI q (n.getD q 0 + 1)
              have c1 : wr.cell? ⟨g, q, none⟩ = some (.int .i64 (n.getD q 0)) := by rw [hB.cell]; exact intsC_at n q (by omega)
              have f1 := hB.frozen q
              have d0 := HST.out.nn q
              have d1 := HST.out.bd HP.out q
              have g1 := grown_setCell wr ⟨g, q, none⟩ (.int .i64 (n.getD q 0 + 1))
              obtain ⟨a, ha⟩ : ∃ a, a = n.set q (n.getD q 0 + 1) := ⟨_, rfl⟩
              have hap : 0 ≤ a.getD p 0 ∧ a.getD p 0 ≤ 258 := by
                rw [ha, getD_set _ _ _ _ (by omega)]
                have := HST.out.nn p
                have := HST.out.bd HP.out p
                split <;> omega
              have hal : a.length = 258 := by rw [ha, List.length_set, hl]
              have haj : a.getD j 0 = n.getD j 0 := by rw [ha, getD_set _ _ _ _ (by omega), if_neg (by omega)]
              have hai : a.getD i 0 = n.getD i 0 := by rw [ha, getD_set _ _ _ _ (by omega), if_neg (by omega)]
              rw [← ha] at hB1 hstep
              obtain ⟨hap0, hap1⟩ := hap
              generalize n.getD q 0 = x1 at *
              obtain ⟨w1, hw1⟩ : ∃ w1, w1 = wr.setCell ⟨g, q, none⟩ (.int .i64 (x1 + 1)) := ⟨_, rfl⟩
              rw [← hw1] at hB1 g1
              have hB2 := hB1.setI p (a.getD p 0 + 2)
              have c2 : w1.cell? ⟨g, p, none⟩ = some (.int .i64 (a.getD p 0)) := by rw [hB1.cell]; exact intsC_at a p (by omega)
              have f2 := hB1.frozen p
              have g2 := grown_setCell w1 ⟨g, p, none⟩ (.int .i64 (a.getD p 0 + 2))
              obtain ⟨b, hb⟩ : ∃ b, b = a.set p (a.getD p 0 + 2) := ⟨_, rfl⟩
              have hbl : b.length = 258 := by rw [hb, List.length_set, hal]
              have hbj : b.getD j 0 = n.getD j 0 := by rw [hb, getD_set _ _ _ _ (by omega), if_neg (by omega), haj]
              have hbi : b.getD i 0 = n.getD i 0 := by rw [hb, getD_set _ _ _ _ (by omega), if_neg (by omega), hai]
              rw [← hb] at hB2 hstep
              generalize a.getD p 0 = x2 at *
              obtain ⟨w2, hw2⟩ : ∃ w2, w2 = w1.setCell ⟨g, p, none⟩ (.int .i64 (x2 + 2)) := ⟨_, rfl⟩
              rw [← hw2] at hB2 g2
              have hB3 := hB2.setI j (b.getD j 0 - 1)
              have c3 : w2.cell? ⟨g, j, none⟩ = some (.int .i64 (b.getD j 0)) := by rw [hB2.cell]; exact intsC_at b j (by omega)
              have f3 := hB2.frozen j
              have g3 := grown_setCell w2 ⟨g, j, none⟩ (.int .i64 (b.getD j 0 - 1))
              obtain ⟨c, hc⟩ : ∃ c, c = b.set j (b.getD j 0 - 1) := ⟨_, rfl⟩
              have hcl : c.length = 258 := by rw [hc, List.length_set, hbl]
              have hci : c.getD i 0 = x := by rw [hc, getD_set _ _ _ _ (by omega), if_neg (by omega), hbi, HX.out]
              rw [← hc] at hB3 hstep
              rw [hbj] at c3 g3 hB3
              generalize n.getD j 0 = y at *
              obtain ⟨w3, hw3⟩ : ∃ w3, w3 = w2.setCell ⟨g, j, none⟩ (.int .i64 (y - 1)) := ⟨_, rfl⟩
              rw [← hw3] at hB3 g3
              have hB4 := hB3.setI i (c.getD i 0 - 2)
              have c4 : w3.cell? ⟨g, i, none⟩ = some (.int .i64 (c.getD i 0)) := by rw [hB3.cell]; exact intsC_at c i (by omega)
              have f4 := hB3.frozen i
              have g4 := grown_setCell w3 ⟨g, i, none⟩ (.int .i64 (c.getD i 0 - 2))
              have hme4 := hB4.cellI (i := i) (by rw [List.length_set]; omega)
              rw [getD_set _ _ _ _ (by omega), if_pos rfl] at hme4
              rw [hci] at c4 g4 hB4 hstep hme4
              have HS := Lib.hid hstep
              have HG := Lib.hid (((g1.trans g2).trans g3).trans g4)
              have HB4 := Lib.hid hB4
              have HM4 := Lib.hid hme4
              have HWS := Lib.hid (And.intro hw1 (And.intro hw2 hw3))
              have e1 := hw1.symm
              have e2 := hw2.symm
              have e3 := hw3.symm
              have l1 : q < 258 := by omega
              have l2 : p < 258 := by omega
              have l3 : j < 258 := by omega
              clear h3 h4 hpp hstep g1 g2 g3 g4 hB4 hme4 hw1 hw2 hw3 ha hb hc haj hai hbj hbi hci hB hB1 hB2 hB3 hal hbl hcl
              go_wp2_with fail
              go_roundw
              case rel => exact ⟨_, HS.out, HB4.out, hg.trans HG.out⟩
              case measure => rw [HM4.out, HME.out]; omega
        · have hdn := HST.out.down (by rw [← HX.out]; exact hpos)
          have h4 := HQ.out
          rw [← h4] at hdn
          have HDN := Lib.hid hdn
          clear hdn h4
          go_wp2_with fail
          go_roundw
          case rel => exact ⟨q, n, by have := HQ.out; omega, by have := HQ.out; omega, rfl, HDN.out, hB, hg⟩
          case measure => have := HQ.out; simp [intOf]; omega
    · obtain rfl : i = 16 := by omega
      go_wp2_with fail
      exact bodyPost_end (results_none rfl _ _ _) rfl ⟨rfl, n, hst, hB, hg⟩
end Go.Proofs.Ytdkgficmodcolaa
