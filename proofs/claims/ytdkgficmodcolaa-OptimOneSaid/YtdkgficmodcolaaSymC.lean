/- symMergeCmpFunc where both parts are longer: search, rotate, merge the halves. -/
import Derived.Test.YtdkgficmodcolaaSymB
namespace Go.Proofs.Ytdkgficmodcolaa
open Go.RowKit

set_option maxRecDepth 100000 in
set_option maxHeartbeats 3200000 in
theorem sym_c (base g cap sb : Nat) (s : List Int) (xs : List Nat) (a m b mid n p : Nat) (W : World) (h : Rw W base g cap xs sb s) (h1 : a + 1 < m) (h2 : m + 1 < b) (h3 : b ≤ xs.length) (s1 : Srt (keyS s) xs a m) (s2 : Srt (keyS s) xs m b)
    (hmd : mid = (a + b) / 2) (hn : n = mid + m) (hp : n = p + 1)
    (ih : ∀ (ys : List Nat) (a' m' b' : Nat) (w : World), b' - a' < b - a → Rw w base g cap ys sb s → a' < m' → m' < b' → b' ≤ ys.length → Srt (keyS s) ys a' m' → Srt (keyS s) ys m' b' → SymC base g cap sb s ys a' m' b' w) : SymC base g cap sb s xs a m b W := by
  unfold SymC
  obtain ⟨len, hlen⟩ : ∃ len, len = xs.length := ⟨_, rfl⟩
  have hfew := h.few
  rw [← hlen] at h3 hfew ⊢
  have HLEN := Lib.hid hlen
  have HIH := Lib.hid ih
  have HS1 := Lib.hid s1
  have HS2 := Lib.hid s2
  have e18 : ∀ args w, (callFunc 18 args).run Try.prog w = .ok (.enter 18 args) w := enters_of Try.func18 (by kernel_rfl) rfl
  have hm1' : ((m : Int) - (a : Int) == 1) = false := by simp; omega
  have hb1' : ((b : Int) - (m : Int) == 1) = false := by simp; omega
  have emid : ((a : Int) + (b : Int)) / 2 = (mid : Int) := by omega
  have en : (mid : Int) + (m : Int) = (n : Int) := by omega
  have ep : (n : Int) - 1 = (p : Int) := by omega
  have hmid1 : a < mid ∧ mid < b := by omega
  obtain ⟨hmid1, hmid2⟩ := hmid1
  have HMD := Lib.hid hmd
  have HN := Lib.hid hn
  have HP := Lib.hid hp
  have hnl : n ≤ 1000 := by omega
  have hpl : p ≤ 1000 := by omega
  have hmdl : mid ≤ 300 := by omega
  by_cases hc : mid < m
  · obtain ⟨lo0, hlo⟩ : ∃ lo0, lo0 + b = mid + m := ⟨mid + m - b, by omega⟩
    have elo : (n : Int) - (b : Int) = (lo0 : Int) := by omega
    have hci : (mid : Int) < (m : Int) := by omega
    have hloa : a ≤ lo0 := by omega
    have HLO := Lib.hid hlo
    have hst := FindS.start (keyS s) xs n lo0 mid (by omega)
    have hrg : RngS a m b n lo0 mid := ⟨by omega, by omega, by omega, by omega⟩
    have HRG := Lib.hid hrg
    have hr0 : mid ≤ m := by omega
    have hr1 : mid ≤ mid := by omega
    have hl1 : n ≤ lo0 + b := by omega
    clear hlen ih s1 s2 hmd hn hp hrg
    go_enter Try.func32, Try.ntmps32
    go_wp2_with fail
    go_loopw [20, 21] (fun v20 v21 (w : World) => ∃ (st r : Nat), v20 = .int .i64 st ∧ v21 = .int .i64 r ∧ Rw w base g cap xs sb s ∧ FindS (keyS s) xs n lo0 mid st r ∧ W.grownBy w (some g)) (fun v20 v21 _ => (intOf v21).toNat - (intOf v20).toNat)
    case atStart => exact ⟨_, _, rfl, rfl, h, hst, World.grownBy.refl _ _⟩
    case round =>
      clear h hst
      obtain ⟨st, r, rfl, rfl, h, hst, hg⟩ := hrel
      have i1 := hst.l1
      have i2 := hst.l2
      have i3 := hst.l3
      by_cases hlt : st < r
      · obtain ⟨q, hq⟩ : ∃ q, q = (st + r) / 2 := ⟨_, rfl⟩
        have ej : ((st : Int) + (r : Int)) / 2 = (q : Int) := by omega
        have hq1 : st ≤ q ∧ q < r := by omega
        obtain ⟨q1, q2⟩ := hq1
        obtain ⟨d, hd⟩ : ∃ d, d = n - 1 - q := ⟨_, rfl⟩
        have HP1 := HP.out
        have HN1 := HN.out
        have ed : (p : Int) - (q : Int) = (d : Int) := by omega
        have hdl : d < b := by omega
        have c1 := h.cell (i := d) (by rw [← HLEN.out]; omega)
        have c2 := h.cell (i := q) (by rw [← HLEN.out]; omega)
        have KC : ∀ n, _ := fun n => h.cmp d q n
        obtain ⟨x, hx⟩ : ∃ x, x = xs.getD d 0 := ⟨_, rfl⟩
        obtain ⟨y, hy⟩ : ∃ y, y = xs.getD q 0 := ⟨_, rfl⟩
        rw [← hx] at c1 KC
        rw [← hy] at c2 KC
        obtain ⟨cr, hcr⟩ : ∃ cr, cr = cmpS (s.getD x 0) (s.getD y 0) := ⟨_, rfl⟩
        rw [← hcr] at KC
        have hcr2 := cmpS_lt (s.getD x 0) (s.getD y 0)
        rw [← hcr] at hcr2
        have HST := Lib.hid hst
        have HX := Lib.hid hx
        have HY := Lib.hid hy
        have HD := Lib.hid hd
        have HKC := Lib.hid KC
        have HCR := Lib.hid hcr2
        have hql : (q : Int) < (len : Int) := by omega
        have hdl2 : (d : Int) < (len : Int) := by omega
        clear KC hx hy hst hq hcr hcr2 hd HP1 HN1
        go_wp2_with fail
        go_quiet (first | (go_at_call 18; exact HKC.out _))
        have h2' := h.drewN nq
        have hg2 := hg.trans (drewN_grown wr nq (some g))
        clear c1 c2 h hg HKC
        generalize wr.drewN nq = w2 at *
        go_wp2_with fail
        · have hc0 : ¬ cr < 0 := by rename_i hcc; simpa using hcc
          have hn := HST.out.up HRG.out HS1.out HS2.out q1 q2 (by rw [← HD.out, ← HX.out, ← HY.out]; exact Int.not_lt.1 (fun h => hc0 (HCR.out.2 h)))
          go_roundw
          case rel => exact ⟨q + 1, r, by go_num, rfl, h2', hn, hg2⟩
          case measure => simp [intOf]; omega
        · have hc0 : cr < 0 := by rename_i hcc; simpa using hcc
          have hn := HST.out.down HRG.out HS1.out HS2.out q1 q2 (by rw [← HD.out, ← HX.out, ← HY.out]; exact HCR.out.1 hc0)
          go_roundw
          case rel => exact ⟨st, q, rfl, rfl, h2', hn, hg2⟩
          case measure => simp [intOf]; omega
      · obtain rfl : st = r := by omega
        have HST := Lib.hid hst
        obtain ⟨e, he⟩ : ∃ e, e = mid + m - st := ⟨_, rfl⟩
        have HN1 := HN.out
        have ee : (n : Int) - (st : Int) = (e : Int) := by omega
        have he1 : mid ≤ e ∧ e ≤ b ∧ m ≤ e ∧ st ≤ mid ∧ a ≤ st ∧ st ≤ m := by omega
        obtain ⟨he1, he2, he3, he4, he5, he6⟩ := he1
        have HE := Lib.hid he
        have KF : ∀ zs, RotS xs zs st m e → Four (keyS s) zs a st mid e b := fun zs hz => by
          have h5 := sym_four (mid := mid) HS1.out HS2.out (by rw [← HN.out]; exact HST.out) (by rw [← HN.out]; exact HRG.out) (Or.inr HLO.out) (Or.inr rfl) (by rw [← HE.out]; exact hz)
          rwa [← HE.out] at h5
        have HKF := Lib.hid KF
        clear hst he KF HN1
        by_cases hrt : st < m ∧ m < e
        · obtain ⟨hrt1, hrt2⟩ := hrt
          have KR := rotate_any base g cap sb s xs st m e wr h hrt1 hrt2 (by rw [← HLEN.out]; omega) (cmpV sb)
          rw [← HLEN.out] at KR
          have HKR := Lib.hid KR
          clear KR
          go_wp2_with fail
          refine HKR.out.mono ?_
          rintro e' w3 ⟨rfl, zs, hz, hrot, hg3⟩
          have hgz := hg.trans hg3
          have HZL : Hid (zs.length = len) := Lib.hid (by rw [hrot.len, HLEN.out])
          have HFO : Hid (Four (keyS s) zs a st mid e b) := Lib.hid (HKF.out zs hrot)
          have HIN : Hid (Inn xs zs a b) := Lib.hid ((hrot.toInn he6 he3).wide he5 he2)
          clear hrot hg hg3 h HKR
          rcases (by omega : (a < st ∧ st < mid) ∨ ¬ a < st ∨ (a < st ∧ ¬ st < mid)) with ⟨hca1, hca2⟩ | hca1 | ⟨hca1, hca2⟩
          · have KA := HIH.out zs a st mid w3 (by omega) hz hca1 hca2 (by rw [HZL.out]; omega) HFO.out.s1 HFO.out.s2
            unfold SymC at KA
            rw [HZL.out] at KA
            have HKA := Lib.hid KA
            clear KA
            go_wp2_with fail
            refine HKA.out.mono ?_
            rintro e' w4 ⟨rfl, z2, hz2, hin2, hso2, hg4⟩
            have hg4b := hgz.trans hg4
            have HZ2L : Hid (z2.length = len) := Lib.hid (by rw [hin2.len, HZL.out])
            rcases (by omega : (mid < e ∧ e < b) ∨ ¬ mid < e ∨ (mid < e ∧ ¬ e < b)) with ⟨hcb1, hcb2⟩ | hcb1 | ⟨hcb1, hcb2⟩
            · have KB := HIH.out z2 mid e b w4 (by omega) hz2 hcb1 hcb2 (by rw [HZ2L.out]; omega) (HFO.out.s3.congr (fun k k1 k2 => hin2.out k (by omega))) (HFO.out.s4.congr (fun k k1 k2 => hin2.out k (by omega)))
              unfold SymC at KB
              rw [HZ2L.out] at KB
              have HKB := Lib.hid KB
              clear KB
              go_wp2_with fail
              refine HKB.out.mono ?_
              rintro e' w5 ⟨rfl, z3, hz3, hin3, hso3, hg5⟩
              go_wp2_with fail
              exact bodyPost_end (results_none rfl _ _ _) rfl ⟨rfl, z3, hz3, (HIN.out.trans (hin2.wide (Nat.le_refl _) (by omega))).trans (hin3.wide (by omega) (Nat.le_refl _)), HFO.out.join hin2 hin3 hso2 hso3, hg4b.trans hg5⟩
            · have hso3 : Srt (keyS s) z2 mid b := (HFO.out.right (by omega) he1 he2).congr (fun k k1 k2 => hin2.out k (by omega))
              go_wp2_with fail
              exact bodyPost_end (results_none rfl _ _ _) rfl ⟨rfl, z2, hz2, HIN.out.trans (hin2.wide (Nat.le_refl _) (by omega)), HFO.out.join hin2 (Inn.refl _ _ _) hso2 hso3, hg4b⟩
            · have hso3 : Srt (keyS s) z2 mid b := (HFO.out.right (by omega) he1 he2).congr (fun k k1 k2 => hin2.out k (by omega))
              go_wp2_with fail
              exact bodyPost_end (results_none rfl _ _ _) rfl ⟨rfl, z2, hz2, HIN.out.trans (hin2.wide (Nat.le_refl _) (by omega)), HFO.out.join hin2 (Inn.refl _ _ _) hso2 hso3, hg4b⟩
          · have hso2 : Srt (keyS s) zs a mid := HFO.out.left (by omega) he5 he4
            have hin2 : Inn zs zs a mid := Inn.refl _ _ _
            have HZ2L : Hid (zs.length = len) := HZL
            rcases (by omega : (mid < e ∧ e < b) ∨ ¬ mid < e ∨ (mid < e ∧ ¬ e < b)) with ⟨hcb1, hcb2⟩ | hcb1 | ⟨hcb1, hcb2⟩
            · have KB := HIH.out zs mid e b w3 (by omega) hz hcb1 hcb2 (by rw [HZ2L.out]; omega) (HFO.out.s3.congr (fun k k1 k2 => hin2.out k (by omega))) (HFO.out.s4.congr (fun k k1 k2 => hin2.out k (by omega)))
              unfold SymC at KB
              rw [HZ2L.out] at KB
              have HKB := Lib.hid KB
              clear KB
              go_wp2_with fail
              refine HKB.out.mono ?_
              rintro e' w5 ⟨rfl, z3, hz3, hin3, hso3, hg5⟩
              go_wp2_with fail
              exact bodyPost_end (results_none rfl _ _ _) rfl ⟨rfl, z3, hz3, (HIN.out.trans (hin2.wide (Nat.le_refl _) (by omega))).trans (hin3.wide (by omega) (Nat.le_refl _)), HFO.out.join hin2 hin3 hso2 hso3, hgz.trans hg5⟩
            · have hso3 : Srt (keyS s) zs mid b := (HFO.out.right (by omega) he1 he2).congr (fun k k1 k2 => hin2.out k (by omega))
              go_wp2_with fail
              exact bodyPost_end (results_none rfl _ _ _) rfl ⟨rfl, zs, hz, HIN.out.trans (hin2.wide (Nat.le_refl _) (by omega)), HFO.out.join hin2 (Inn.refl _ _ _) hso2 hso3, hgz⟩
            · have hso3 : Srt (keyS s) zs mid b := (HFO.out.right (by omega) he1 he2).congr (fun k k1 k2 => hin2.out k (by omega))
              go_wp2_with fail
              exact bodyPost_end (results_none rfl _ _ _) rfl ⟨rfl, zs, hz, HIN.out.trans (hin2.wide (Nat.le_refl _) (by omega)), HFO.out.join hin2 (Inn.refl _ _ _) hso2 hso3, hgz⟩
          · have hso2 : Srt (keyS s) zs a mid := HFO.out.left (by omega) he5 he4
            have hin2 : Inn zs zs a mid := Inn.refl _ _ _
            have HZ2L : Hid (zs.length = len) := HZL
            rcases (by omega : (mid < e ∧ e < b) ∨ ¬ mid < e ∨ (mid < e ∧ ¬ e < b)) with ⟨hcb1, hcb2⟩ | hcb1 | ⟨hcb1, hcb2⟩
            · have KB := HIH.out zs mid e b w3 (by omega) hz hcb1 hcb2 (by rw [HZ2L.out]; omega) (HFO.out.s3.congr (fun k k1 k2 => hin2.out k (by omega))) (HFO.out.s4.congr (fun k k1 k2 => hin2.out k (by omega)))
              unfold SymC at KB
              rw [HZ2L.out] at KB
              have HKB := Lib.hid KB
              clear KB
              go_wp2_with fail
              refine HKB.out.mono ?_
              rintro e' w5 ⟨rfl, z3, hz3, hin3, hso3, hg5⟩
              go_wp2_with fail
              exact bodyPost_end (results_none rfl _ _ _) rfl ⟨rfl, z3, hz3, (HIN.out.trans (hin2.wide (Nat.le_refl _) (by omega))).trans (hin3.wide (by omega) (Nat.le_refl _)), HFO.out.join hin2 hin3 hso2 hso3, hgz.trans hg5⟩
            · have hso3 : Srt (keyS s) zs mid b := (HFO.out.right (by omega) he1 he2).congr (fun k k1 k2 => hin2.out k (by omega))
              go_wp2_with fail
              exact bodyPost_end (results_none rfl _ _ _) rfl ⟨rfl, zs, hz, HIN.out.trans (hin2.wide (Nat.le_refl _) (by omega)), HFO.out.join hin2 (Inn.refl _ _ _) hso2 hso3, hgz⟩
            · have hso3 : Srt (keyS s) zs mid b := (HFO.out.right (by omega) he1 he2).congr (fun k k1 k2 => hin2.out k (by omega))
              go_wp2_with fail
              exact bodyPost_end (results_none rfl _ _ _) rfl ⟨rfl, zs, hz, HIN.out.trans (hin2.wide (Nat.le_refl _) (by omega)), HFO.out.join hin2 (Inn.refl _ _ _) hso2 hso3, hgz⟩
        · have hzr := RotS.none (xs := xs) (st := st) (m := m) (en := e) (by omega) he3
          have HZL : Hid (xs.length = len) := Lib.hid HLEN.out.symm
          have HFO : Hid (Four (keyS s) xs a st mid e b) := Lib.hid (HKF.out xs hzr)
          have HIN : Hid (Inn xs xs a b) := Lib.hid (Inn.refl _ _ _)
          clear hzr
          rcases (by omega : ¬ st < m ∨ (st < m ∧ ¬ m < e)) with hrt1 | ⟨hrt1, hrt2⟩
          · clear hrt
            rcases (by omega : (a < st ∧ st < mid) ∨ ¬ a < st ∨ (a < st ∧ ¬ st < mid)) with ⟨hca1, hca2⟩ | hca1 | ⟨hca1, hca2⟩
            · have KA := HIH.out xs a st mid wr (by omega) h hca1 hca2 (by rw [HZL.out]; omega) HFO.out.s1 HFO.out.s2
              unfold SymC at KA
              rw [HZL.out] at KA
              have HKA := Lib.hid KA
              clear KA
              go_wp2_with fail
              refine HKA.out.mono ?_
              rintro e' w4 ⟨rfl, z2, hz2, hin2, hso2, hg4⟩
              have hg4b := hg.trans hg4
              have HZ2L : Hid (z2.length = len) := Lib.hid (by rw [hin2.len, HZL.out])
              rcases (by omega : (mid < e ∧ e < b) ∨ ¬ mid < e ∨ (mid < e ∧ ¬ e < b)) with ⟨hcb1, hcb2⟩ | hcb1 | ⟨hcb1, hcb2⟩
              · have KB := HIH.out z2 mid e b w4 (by omega) hz2 hcb1 hcb2 (by rw [HZ2L.out]; omega) (HFO.out.s3.congr (fun k k1 k2 => hin2.out k (by omega))) (HFO.out.s4.congr (fun k k1 k2 => hin2.out k (by omega)))
                unfold SymC at KB
                rw [HZ2L.out] at KB
                have HKB := Lib.hid KB
                clear KB
                go_wp2_with fail
                refine HKB.out.mono ?_
                rintro e' w5 ⟨rfl, z3, hz3, hin3, hso3, hg5⟩
                go_wp2_with fail
                exact bodyPost_end (results_none rfl _ _ _) rfl ⟨rfl, z3, hz3, (HIN.out.trans (hin2.wide (Nat.le_refl _) (by omega))).trans (hin3.wide (by omega) (Nat.le_refl _)), HFO.out.join hin2 hin3 hso2 hso3, hg4b.trans hg5⟩
              · have hso3 : Srt (keyS s) z2 mid b := (HFO.out.right (by omega) he1 he2).congr (fun k k1 k2 => hin2.out k (by omega))
                go_wp2_with fail
                exact bodyPost_end (results_none rfl _ _ _) rfl ⟨rfl, z2, hz2, HIN.out.trans (hin2.wide (Nat.le_refl _) (by omega)), HFO.out.join hin2 (Inn.refl _ _ _) hso2 hso3, hg4b⟩
              · have hso3 : Srt (keyS s) z2 mid b := (HFO.out.right (by omega) he1 he2).congr (fun k k1 k2 => hin2.out k (by omega))
                go_wp2_with fail
                exact bodyPost_end (results_none rfl _ _ _) rfl ⟨rfl, z2, hz2, HIN.out.trans (hin2.wide (Nat.le_refl _) (by omega)), HFO.out.join hin2 (Inn.refl _ _ _) hso2 hso3, hg4b⟩
            · have hso2 : Srt (keyS s) xs a mid := HFO.out.left (by omega) he5 he4
              have hin2 : Inn xs xs a mid := Inn.refl _ _ _
              have HZ2L : Hid (xs.length = len) := HZL
              rcases (by omega : (mid < e ∧ e < b) ∨ ¬ mid < e ∨ (mid < e ∧ ¬ e < b)) with ⟨hcb1, hcb2⟩ | hcb1 | ⟨hcb1, hcb2⟩
              · have KB := HIH.out xs mid e b wr (by omega) h hcb1 hcb2 (by rw [HZ2L.out]; omega) (HFO.out.s3.congr (fun k k1 k2 => hin2.out k (by omega))) (HFO.out.s4.congr (fun k k1 k2 => hin2.out k (by omega)))
                unfold SymC at KB
                rw [HZ2L.out] at KB
                have HKB := Lib.hid KB
                clear KB
                go_wp2_with fail
                refine HKB.out.mono ?_
                rintro e' w5 ⟨rfl, z3, hz3, hin3, hso3, hg5⟩
                go_wp2_with fail
                exact bodyPost_end (results_none rfl _ _ _) rfl ⟨rfl, z3, hz3, (HIN.out.trans (hin2.wide (Nat.le_refl _) (by omega))).trans (hin3.wide (by omega) (Nat.le_refl _)), HFO.out.join hin2 hin3 hso2 hso3, hg.trans hg5⟩
              · have hso3 : Srt (keyS s) xs mid b := (HFO.out.right (by omega) he1 he2).congr (fun k k1 k2 => hin2.out k (by omega))
                go_wp2_with fail
                exact bodyPost_end (results_none rfl _ _ _) rfl ⟨rfl, xs, h, HIN.out.trans (hin2.wide (Nat.le_refl _) (by omega)), HFO.out.join hin2 (Inn.refl _ _ _) hso2 hso3, hg⟩
              · have hso3 : Srt (keyS s) xs mid b := (HFO.out.right (by omega) he1 he2).congr (fun k k1 k2 => hin2.out k (by omega))
                go_wp2_with fail
                exact bodyPost_end (results_none rfl _ _ _) rfl ⟨rfl, xs, h, HIN.out.trans (hin2.wide (Nat.le_refl _) (by omega)), HFO.out.join hin2 (Inn.refl _ _ _) hso2 hso3, hg⟩
            · have hso2 : Srt (keyS s) xs a mid := HFO.out.left (by omega) he5 he4
              have hin2 : Inn xs xs a mid := Inn.refl _ _ _
              have HZ2L : Hid (xs.length = len) := HZL
              rcases (by omega : (mid < e ∧ e < b) ∨ ¬ mid < e ∨ (mid < e ∧ ¬ e < b)) with ⟨hcb1, hcb2⟩ | hcb1 | ⟨hcb1, hcb2⟩
              · have KB := HIH.out xs mid e b wr (by omega) h hcb1 hcb2 (by rw [HZ2L.out]; omega) (HFO.out.s3.congr (fun k k1 k2 => hin2.out k (by omega))) (HFO.out.s4.congr (fun k k1 k2 => hin2.out k (by omega)))
                unfold SymC at KB
                rw [HZ2L.out] at KB
                have HKB := Lib.hid KB
                clear KB
                go_wp2_with fail
                refine HKB.out.mono ?_
                rintro e' w5 ⟨rfl, z3, hz3, hin3, hso3, hg5⟩
                go_wp2_with fail
                exact bodyPost_end (results_none rfl _ _ _) rfl ⟨rfl, z3, hz3, (HIN.out.trans (hin2.wide (Nat.le_refl _) (by omega))).trans (hin3.wide (by omega) (Nat.le_refl _)), HFO.out.join hin2 hin3 hso2 hso3, hg.trans hg5⟩
              · have hso3 : Srt (keyS s) xs mid b := (HFO.out.right (by omega) he1 he2).congr (fun k k1 k2 => hin2.out k (by omega))
                go_wp2_with fail
                exact bodyPost_end (results_none rfl _ _ _) rfl ⟨rfl, xs, h, HIN.out.trans (hin2.wide (Nat.le_refl _) (by omega)), HFO.out.join hin2 (Inn.refl _ _ _) hso2 hso3, hg⟩
              · have hso3 : Srt (keyS s) xs mid b := (HFO.out.right (by omega) he1 he2).congr (fun k k1 k2 => hin2.out k (by omega))
                go_wp2_with fail
                exact bodyPost_end (results_none rfl _ _ _) rfl ⟨rfl, xs, h, HIN.out.trans (hin2.wide (Nat.le_refl _) (by omega)), HFO.out.join hin2 (Inn.refl _ _ _) hso2 hso3, hg⟩
          · clear hrt
            rcases (by omega : (a < st ∧ st < mid) ∨ ¬ a < st ∨ (a < st ∧ ¬ st < mid)) with ⟨hca1, hca2⟩ | hca1 | ⟨hca1, hca2⟩
            · have KA := HIH.out xs a st mid wr (by omega) h hca1 hca2 (by rw [HZL.out]; omega) HFO.out.s1 HFO.out.s2
              unfold SymC at KA
              rw [HZL.out] at KA
              have HKA := Lib.hid KA
              clear KA
              go_wp2_with fail
              refine HKA.out.mono ?_
              rintro e' w4 ⟨rfl, z2, hz2, hin2, hso2, hg4⟩
              have hg4b := hg.trans hg4
              have HZ2L : Hid (z2.length = len) := Lib.hid (by rw [hin2.len, HZL.out])
              rcases (by omega : (mid < e ∧ e < b) ∨ ¬ mid < e ∨ (mid < e ∧ ¬ e < b)) with ⟨hcb1, hcb2⟩ | hcb1 | ⟨hcb1, hcb2⟩
              · have KB := HIH.out z2 mid e b w4 (by omega) hz2 hcb1 hcb2 (by rw [HZ2L.out]; omega) (HFO.out.s3.congr (fun k k1 k2 => hin2.out k (by omega))) (HFO.out.s4.congr (fun k k1 k2 => hin2.out k (by omega)))
                unfold SymC at KB
                rw [HZ2L.out] at KB
                have HKB := Lib.hid KB
                clear KB
                go_wp2_with fail
                refine HKB.out.mono ?_
                rintro e' w5 ⟨rfl, z3, hz3, hin3, hso3, hg5⟩
                go_wp2_with fail
                exact bodyPost_end (results_none rfl _ _ _) rfl ⟨rfl, z3, hz3, (HIN.out.trans (hin2.wide (Nat.le_refl _) (by omega))).trans (hin3.wide (by omega) (Nat.le_refl _)), HFO.out.join hin2 hin3 hso2 hso3, hg4b.trans hg5⟩
              · have hso3 : Srt (keyS s) z2 mid b := (HFO.out.right (by omega) he1 he2).congr (fun k k1 k2 => hin2.out k (by omega))
                go_wp2_with fail
                exact bodyPost_end (results_none rfl _ _ _) rfl ⟨rfl, z2, hz2, HIN.out.trans (hin2.wide (Nat.le_refl _) (by omega)), HFO.out.join hin2 (Inn.refl _ _ _) hso2 hso3, hg4b⟩
              · have hso3 : Srt (keyS s) z2 mid b := (HFO.out.right (by omega) he1 he2).congr (fun k k1 k2 => hin2.out k (by omega))
                go_wp2_with fail
                exact bodyPost_end (results_none rfl _ _ _) rfl ⟨rfl, z2, hz2, HIN.out.trans (hin2.wide (Nat.le_refl _) (by omega)), HFO.out.join hin2 (Inn.refl _ _ _) hso2 hso3, hg4b⟩
            · have hso2 : Srt (keyS s) xs a mid := HFO.out.left (by omega) he5 he4
              have hin2 : Inn xs xs a mid := Inn.refl _ _ _
              have HZ2L : Hid (xs.length = len) := HZL
              rcases (by omega : (mid < e ∧ e < b) ∨ ¬ mid < e ∨ (mid < e ∧ ¬ e < b)) with ⟨hcb1, hcb2⟩ | hcb1 | ⟨hcb1, hcb2⟩
              · have KB := HIH.out xs mid e b wr (by omega) h hcb1 hcb2 (by rw [HZ2L.out]; omega) (HFO.out.s3.congr (fun k k1 k2 => hin2.out k (by omega))) (HFO.out.s4.congr (fun k k1 k2 => hin2.out k (by omega)))
                unfold SymC at KB
                rw [HZ2L.out] at KB
                have HKB := Lib.hid KB
                clear KB
                go_wp2_with fail
                refine HKB.out.mono ?_
                rintro e' w5 ⟨rfl, z3, hz3, hin3, hso3, hg5⟩
                go_wp2_with fail
                exact bodyPost_end (results_none rfl _ _ _) rfl ⟨rfl, z3, hz3, (HIN.out.trans (hin2.wide (Nat.le_refl _) (by omega))).trans (hin3.wide (by omega) (Nat.le_refl _)), HFO.out.join hin2 hin3 hso2 hso3, hg.trans hg5⟩
              · have hso3 : Srt (keyS s) xs mid b := (HFO.out.right (by omega) he1 he2).congr (fun k k1 k2 => hin2.out k (by omega))
                go_wp2_with fail
                exact bodyPost_end (results_none rfl _ _ _) rfl ⟨rfl, xs, h, HIN.out.trans (hin2.wide (Nat.le_refl _) (by omega)), HFO.out.join hin2 (Inn.refl _ _ _) hso2 hso3, hg⟩
              · have hso3 : Srt (keyS s) xs mid b := (HFO.out.right (by omega) he1 he2).congr (fun k k1 k2 => hin2.out k (by omega))
                go_wp2_with fail
                exact bodyPost_end (results_none rfl _ _ _) rfl ⟨rfl, xs, h, HIN.out.trans (hin2.wide (Nat.le_refl _) (by omega)), HFO.out.join hin2 (Inn.refl _ _ _) hso2 hso3, hg⟩
            · have hso2 : Srt (keyS s) xs a mid := HFO.out.left (by omega) he5 he4
              have hin2 : Inn xs xs a mid := Inn.refl _ _ _
              have HZ2L : Hid (xs.length = len) := HZL
              rcases (by omega : (mid < e ∧ e < b) ∨ ¬ mid < e ∨ (mid < e ∧ ¬ e < b)) with ⟨hcb1, hcb2⟩ | hcb1 | ⟨hcb1, hcb2⟩
              · have KB := HIH.out xs mid e b wr (by omega) h hcb1 hcb2 (by rw [HZ2L.out]; omega) (HFO.out.s3.congr (fun k k1 k2 => hin2.out k (by omega))) (HFO.out.s4.congr (fun k k1 k2 => hin2.out k (by omega)))
                unfold SymC at KB
                rw [HZ2L.out] at KB
                have HKB := Lib.hid KB
                clear KB
                go_wp2_with fail
                refine HKB.out.mono ?_
                rintro e' w5 ⟨rfl, z3, hz3, hin3, hso3, hg5⟩
                go_wp2_with fail
                exact bodyPost_end (results_none rfl _ _ _) rfl ⟨rfl, z3, hz3, (HIN.out.trans (hin2.wide (Nat.le_refl _) (by omega))).trans (hin3.wide (by omega) (Nat.le_refl _)), HFO.out.join hin2 hin3 hso2 hso3, hg.trans hg5⟩
              · have hso3 : Srt (keyS s) xs mid b := (HFO.out.right (by omega) he1 he2).congr (fun k k1 k2 => hin2.out k (by omega))
                go_wp2_with fail
                exact bodyPost_end (results_none rfl _ _ _) rfl ⟨rfl, xs, h, HIN.out.trans (hin2.wide (Nat.le_refl _) (by omega)), HFO.out.join hin2 (Inn.refl _ _ _) hso2 hso3, hg⟩
              · have hso3 : Srt (keyS s) xs mid b := (HFO.out.right (by omega) he1 he2).congr (fun k k1 k2 => hin2.out k (by omega))
                go_wp2_with fail
                exact bodyPost_end (results_none rfl _ _ _) rfl ⟨rfl, xs, h, HIN.out.trans (hin2.wide (Nat.le_refl _) (by omega)), HFO.out.join hin2 (Inn.refl _ _ _) hso2 hso3, hg⟩
  · have hci : ¬ (mid : Int) < (m : Int) := by omega
    have hst := FindS.start (keyS s) xs n a m (by omega)
    have hrg : RngS a m b n a m := ⟨by omega, by omega, by omega, by omega⟩
    have HRG := Lib.hid hrg
    have hr0 : m ≤ m := by omega
    have hr1 : m ≤ mid := by omega
    have hl1 : n ≤ a + b := by omega
    clear hlen ih s1 s2 hmd hn hp hrg
    go_enter Try.func32, Try.ntmps32
    go_wp2_with fail
    go_loopw [20, 21] (fun v20 v21 (w : World) => ∃ (st r : Nat), v20 = .int .i64 st ∧ v21 = .int .i64 r ∧ Rw w base g cap xs sb s ∧ FindS (keyS s) xs n a m st r ∧ W.grownBy w (some g)) (fun v20 v21 _ => (intOf v21).toNat - (intOf v20).toNat)
    case atStart => exact ⟨_, _, rfl, rfl, h, hst, World.grownBy.refl _ _⟩
    case round =>
      clear h hst
      obtain ⟨st, r, rfl, rfl, h, hst, hg⟩ := hrel
      have i1 := hst.l1
      have i2 := hst.l2
      have i3 := hst.l3
      by_cases hlt : st < r
      · obtain ⟨q, hq⟩ : ∃ q, q = (st + r) / 2 := ⟨_, rfl⟩
        have ej : ((st : Int) + (r : Int)) / 2 = (q : Int) := by omega
        have hq1 : st ≤ q ∧ q < r := by omega
        obtain ⟨q1, q2⟩ := hq1
        obtain ⟨d, hd⟩ : ∃ d, d = n - 1 - q := ⟨_, rfl⟩
        have HP1 := HP.out
        have HN1 := HN.out
        have ed : (p : Int) - (q : Int) = (d : Int) := by omega
        have hdl : d < b := by omega
        have c1 := h.cell (i := d) (by rw [← HLEN.out]; omega)
        have c2 := h.cell (i := q) (by rw [← HLEN.out]; omega)
        have KC : ∀ n, _ := fun n => h.cmp d q n
        obtain ⟨x, hx⟩ : ∃ x, x = xs.getD d 0 := ⟨_, rfl⟩
        obtain ⟨y, hy⟩ : ∃ y, y = xs.getD q 0 := ⟨_, rfl⟩
        rw [← hx] at c1 KC
        rw [← hy] at c2 KC
        obtain ⟨cr, hcr⟩ : ∃ cr, cr = cmpS (s.getD x 0) (s.getD y 0) := ⟨_, rfl⟩
        rw [← hcr] at KC
        have hcr2 := cmpS_lt (s.getD x 0) (s.getD y 0)
        rw [← hcr] at hcr2
        have HST := Lib.hid hst
        have HX := Lib.hid hx
        have HY := Lib.hid hy
        have HD := Lib.hid hd
        have HKC := Lib.hid KC
        have HCR := Lib.hid hcr2
        have hql : (q : Int) < (len : Int) := by omega
        have hdl2 : (d : Int) < (len : Int) := by omega
        clear KC hx hy hst hq hcr hcr2 hd HP1 HN1
        go_wp2_with fail
        go_quiet (first | (go_at_call 18; exact HKC.out _))
        have h2' := h.drewN nq
        have hg2 := hg.trans (drewN_grown wr nq (some g))
        clear c1 c2 h hg HKC
        generalize wr.drewN nq = w2 at *
        go_wp2_with fail
        · have hc0 : ¬ cr < 0 := by rename_i hcc; simpa using hcc
          have hn := HST.out.up HRG.out HS1.out HS2.out q1 q2 (by rw [← HD.out, ← HX.out, ← HY.out]; exact Int.not_lt.1 (fun h => hc0 (HCR.out.2 h)))
          go_roundw
          case rel => exact ⟨q + 1, r, by go_num, rfl, h2', hn, hg2⟩
          case measure => simp [intOf]; omega
        · have hc0 : cr < 0 := by rename_i hcc; simpa using hcc
          have hn := HST.out.down HRG.out HS1.out HS2.out q1 q2 (by rw [← HD.out, ← HX.out, ← HY.out]; exact HCR.out.1 hc0)
          go_roundw
          case rel => exact ⟨st, q, rfl, rfl, h2', hn, hg2⟩
          case measure => simp [intOf]; omega
      · obtain rfl : st = r := by omega
        have HST := Lib.hid hst
        obtain ⟨e, he⟩ : ∃ e, e = mid + m - st := ⟨_, rfl⟩
        have HN1 := HN.out
        have ee : (n : Int) - (st : Int) = (e : Int) := by omega
        have he1 : mid ≤ e ∧ e ≤ b ∧ m ≤ e ∧ st ≤ mid ∧ a ≤ st ∧ st ≤ m := by omega
        obtain ⟨he1, he2, he3, he4, he5, he6⟩ := he1
        have HE := Lib.hid he
        have KF : ∀ zs, RotS xs zs st m e → Four (keyS s) zs a st mid e b := fun zs hz => by
          have h5 := sym_four (mid := mid) HS1.out HS2.out (by rw [← HN.out]; exact HST.out) (by rw [← HN.out]; exact HRG.out) (Or.inl rfl) (Or.inl rfl) (by rw [← HE.out]; exact hz)
          rwa [← HE.out] at h5
        have HKF := Lib.hid KF
        clear hst he KF HN1
        by_cases hrt : st < m ∧ m < e
        · obtain ⟨hrt1, hrt2⟩ := hrt
          have KR := rotate_any base g cap sb s xs st m e wr h hrt1 hrt2 (by rw [← HLEN.out]; omega) (cmpV sb)
          rw [← HLEN.out] at KR
          have HKR := Lib.hid KR
          clear KR
          go_wp2_with fail
          refine HKR.out.mono ?_
          rintro e' w3 ⟨rfl, zs, hz, hrot, hg3⟩
          have hgz := hg.trans hg3
          have HZL : Hid (zs.length = len) := Lib.hid (by rw [hrot.len, HLEN.out])
          have HFO : Hid (Four (keyS s) zs a st mid e b) := Lib.hid (HKF.out zs hrot)
          have HIN : Hid (Inn xs zs a b) := Lib.hid ((hrot.toInn he6 he3).wide he5 he2)
          clear hrot hg hg3 h HKR
          rcases (by omega : (a < st ∧ st < mid) ∨ ¬ a < st ∨ (a < st ∧ ¬ st < mid)) with ⟨hca1, hca2⟩ | hca1 | ⟨hca1, hca2⟩
          · have KA := HIH.out zs a st mid w3 (by omega) hz hca1 hca2 (by rw [HZL.out]; omega) HFO.out.s1 HFO.out.s2
            unfold SymC at KA
            rw [HZL.out] at KA
            have HKA := Lib.hid KA
            clear KA
            go_wp2_with fail
            refine HKA.out.mono ?_
            rintro e' w4 ⟨rfl, z2, hz2, hin2, hso2, hg4⟩
            have hg4b := hgz.trans hg4
            have HZ2L : Hid (z2.length = len) := Lib.hid (by rw [hin2.len, HZL.out])
            rcases (by omega : (mid < e ∧ e < b) ∨ ¬ mid < e ∨ (mid < e ∧ ¬ e < b)) with ⟨hcb1, hcb2⟩ | hcb1 | ⟨hcb1, hcb2⟩
            · have KB := HIH.out z2 mid e b w4 (by omega) hz2 hcb1 hcb2 (by rw [HZ2L.out]; omega) (HFO.out.s3.congr (fun k k1 k2 => hin2.out k (by omega))) (HFO.out.s4.congr (fun k k1 k2 => hin2.out k (by omega)))
              unfold SymC at KB
              rw [HZ2L.out] at KB
              have HKB := Lib.hid KB
              clear KB
              go_wp2_with fail
              refine HKB.out.mono ?_
              rintro e' w5 ⟨rfl, z3, hz3, hin3, hso3, hg5⟩
              go_wp2_with fail
              exact bodyPost_end (results_none rfl _ _ _) rfl ⟨rfl, z3, hz3, (HIN.out.trans (hin2.wide (Nat.le_refl _) (by omega))).trans (hin3.wide (by omega) (Nat.le_refl _)), HFO.out.join hin2 hin3 hso2 hso3, hg4b.trans hg5⟩
            · have hso3 : Srt (keyS s) z2 mid b := (HFO.out.right (by omega) he1 he2).congr (fun k k1 k2 => hin2.out k (by omega))
              go_wp2_with fail
              exact bodyPost_end (results_none rfl _ _ _) rfl ⟨rfl, z2, hz2, HIN.out.trans (hin2.wide (Nat.le_refl _) (by omega)), HFO.out.join hin2 (Inn.refl _ _ _) hso2 hso3, hg4b⟩
            · have hso3 : Srt (keyS s) z2 mid b := (HFO.out.right (by omega) he1 he2).congr (fun k k1 k2 => hin2.out k (by omega))
              go_wp2_with fail
              exact bodyPost_end (results_none rfl _ _ _) rfl ⟨rfl, z2, hz2, HIN.out.trans (hin2.wide (Nat.le_refl _) (by omega)), HFO.out.join hin2 (Inn.refl _ _ _) hso2 hso3, hg4b⟩
          · have hso2 : Srt (keyS s) zs a mid := HFO.out.left (by omega) he5 he4
            have hin2 : Inn zs zs a mid := Inn.refl _ _ _
            have HZ2L : Hid (zs.length = len) := HZL
            rcases (by omega : (mid < e ∧ e < b) ∨ ¬ mid < e ∨ (mid < e ∧ ¬ e < b)) with ⟨hcb1, hcb2⟩ | hcb1 | ⟨hcb1, hcb2⟩
            · have KB := HIH.out zs mid e b w3 (by omega) hz hcb1 hcb2 (by rw [HZ2L.out]; omega) (HFO.out.s3.congr (fun k k1 k2 => hin2.out k (by omega))) (HFO.out.s4.congr (fun k k1 k2 => hin2.out k (by omega)))
              unfold SymC at KB
              rw [HZ2L.out] at KB
              have HKB := Lib.hid KB
              clear KB
              go_wp2_with fail
              refine HKB.out.mono ?_
              rintro e' w5 ⟨rfl, z3, hz3, hin3, hso3, hg5⟩
              go_wp2_with fail
              exact bodyPost_end (results_none rfl _ _ _) rfl ⟨rfl, z3, hz3, (HIN.out.trans (hin2.wide (Nat.le_refl _) (by omega))).trans (hin3.wide (by omega) (Nat.le_refl _)), HFO.out.join hin2 hin3 hso2 hso3, hgz.trans hg5⟩
            · have hso3 : Srt (keyS s) zs mid b := (HFO.out.right (by omega) he1 he2).congr (fun k k1 k2 => hin2.out k (by omega))
              go_wp2_with fail
              exact bodyPost_end (results_none rfl _ _ _) rfl ⟨rfl, zs, hz, HIN.out.trans (hin2.wide (Nat.le_refl _) (by omega)), HFO.out.join hin2 (Inn.refl _ _ _) hso2 hso3, hgz⟩
            · have hso3 : Srt (keyS s) zs mid b := (HFO.out.right (by omega) he1 he2).congr (fun k k1 k2 => hin2.out k (by omega))
              go_wp2_with fail
              exact bodyPost_end (results_none rfl _ _ _) rfl ⟨rfl, zs, hz, HIN.out.trans (hin2.wide (Nat.le_refl _) (by omega)), HFO.out.join hin2 (Inn.refl _ _ _) hso2 hso3, hgz⟩
          · have hso2 : Srt (keyS s) zs a mid := HFO.out.left (by omega) he5 he4
            have hin2 : Inn zs zs a mid := Inn.refl _ _ _
            have HZ2L : Hid (zs.length = len) := HZL
            rcases (by omega : (mid < e ∧ e < b) ∨ ¬ mid < e ∨ (mid < e ∧ ¬ e < b)) with ⟨hcb1, hcb2⟩ | hcb1 | ⟨hcb1, hcb2⟩
            · have KB := HIH.out zs mid e b w3 (by omega) hz hcb1 hcb2 (by rw [HZ2L.out]; omega) (HFO.out.s3.congr (fun k k1 k2 => hin2.out k (by omega))) (HFO.out.s4.congr (fun k k1 k2 => hin2.out k (by omega)))
              unfold SymC at KB
              rw [HZ2L.out] at KB
              have HKB := Lib.hid KB
              clear KB
              go_wp2_with fail
              refine HKB.out.mono ?_
              rintro e' w5 ⟨rfl, z3, hz3, hin3, hso3, hg5⟩
              go_wp2_with fail
              exact bodyPost_end (results_none rfl _ _ _) rfl ⟨rfl, z3, hz3, (HIN.out.trans (hin2.wide (Nat.le_refl _) (by omega))).trans (hin3.wide (by omega) (Nat.le_refl _)), HFO.out.join hin2 hin3 hso2 hso3, hgz.trans hg5⟩
            · have hso3 : Srt (keyS s) zs mid b := (HFO.out.right (by omega) he1 he2).congr (fun k k1 k2 => hin2.out k (by omega))
              go_wp2_with fail
              exact bodyPost_end (results_none rfl _ _ _) rfl ⟨rfl, zs, hz, HIN.out.trans (hin2.wide (Nat.le_refl _) (by omega)), HFO.out.join hin2 (Inn.refl _ _ _) hso2 hso3, hgz⟩
            · have hso3 : Srt (keyS s) zs mid b := (HFO.out.right (by omega) he1 he2).congr (fun k k1 k2 => hin2.out k (by omega))
              go_wp2_with fail
              exact bodyPost_end (results_none rfl _ _ _) rfl ⟨rfl, zs, hz, HIN.out.trans (hin2.wide (Nat.le_refl _) (by omega)), HFO.out.join hin2 (Inn.refl _ _ _) hso2 hso3, hgz⟩
        · have hzr := RotS.none (xs := xs) (st := st) (m := m) (en := e) (by omega) he3
          have HZL : Hid (xs.length = len) := Lib.hid HLEN.out.symm
          have HFO : Hid (Four (keyS s) xs a st mid e b) := Lib.hid (HKF.out xs hzr)
          have HIN : Hid (Inn xs xs a b) := Lib.hid (Inn.refl _ _ _)
          clear hzr
          rcases (by omega : ¬ st < m ∨ (st < m ∧ ¬ m < e)) with hrt1 | ⟨hrt1, hrt2⟩
          · clear hrt
            rcases (by omega : (a < st ∧ st < mid) ∨ ¬ a < st ∨ (a < st ∧ ¬ st < mid)) with ⟨hca1, hca2⟩ | hca1 | ⟨hca1, hca2⟩
            · have KA := HIH.out xs a st mid wr (by omega) h hca1 hca2 (by rw [HZL.out]; omega) HFO.out.s1 HFO.out.s2
              unfold SymC at KA
              rw [HZL.out] at KA
              have HKA := Lib.hid KA
              clear KA
              go_wp2_with fail
              refine HKA.out.mono ?_
              rintro e' w4 ⟨rfl, z2, hz2, hin2, hso2, hg4⟩
              have hg4b := hg.trans hg4
              have HZ2L : Hid (z2.length = len) := Lib.hid (by rw [hin2.len, HZL.out])
              rcases (by omega : (mid < e ∧ e < b) ∨ ¬ mid < e ∨ (mid < e ∧ ¬ e < b)) with ⟨hcb1, hcb2⟩ | hcb1 | ⟨hcb1, hcb2⟩
              · have KB := HIH.out z2 mid e b w4 (by omega) hz2 hcb1 hcb2 (by rw [HZ2L.out]; omega) (HFO.out.s3.congr (fun k k1 k2 => hin2.out k (by omega))) (HFO.out.s4.congr (fun k k1 k2 => hin2.out k (by omega)))
                unfold SymC at KB
                rw [HZ2L.out] at KB
                have HKB := Lib.hid KB
                clear KB
                go_wp2_with fail
                refine HKB.out.mono ?_
                rintro e' w5 ⟨rfl, z3, hz3, hin3, hso3, hg5⟩
                go_wp2_with fail
                exact bodyPost_end (results_none rfl _ _ _) rfl ⟨rfl, z3, hz3, (HIN.out.trans (hin2.wide (Nat.le_refl _) (by omega))).trans (hin3.wide (by omega) (Nat.le_refl _)), HFO.out.join hin2 hin3 hso2 hso3, hg4b.trans hg5⟩
              · have hso3 : Srt (keyS s) z2 mid b := (HFO.out.right (by omega) he1 he2).congr (fun k k1 k2 => hin2.out k (by omega))
                go_wp2_with fail
                exact bodyPost_end (results_none rfl _ _ _) rfl ⟨rfl, z2, hz2, HIN.out.trans (hin2.wide (Nat.le_refl _) (by omega)), HFO.out.join hin2 (Inn.refl _ _ _) hso2 hso3, hg4b⟩
              · have hso3 : Srt (keyS s) z2 mid b := (HFO.out.right (by omega) he1 he2).congr (fun k k1 k2 => hin2.out k (by omega))
                go_wp2_with fail
                exact bodyPost_end (results_none rfl _ _ _) rfl ⟨rfl, z2, hz2, HIN.out.trans (hin2.wide (Nat.le_refl _) (by omega)), HFO.out.join hin2 (Inn.refl _ _ _) hso2 hso3, hg4b⟩
            · have hso2 : Srt (keyS s) xs a mid := HFO.out.left (by omega) he5 he4
              have hin2 : Inn xs xs a mid := Inn.refl _ _ _
              have HZ2L : Hid (xs.length = len) := HZL
              rcases (by omega : (mid < e ∧ e < b) ∨ ¬ mid < e ∨ (mid < e ∧ ¬ e < b)) with ⟨hcb1, hcb2⟩ | hcb1 | ⟨hcb1, hcb2⟩
              · have KB := HIH.out xs mid e b wr (by omega) h hcb1 hcb2 (by rw [HZ2L.out]; omega) (HFO.out.s3.congr (fun k k1 k2 => hin2.out k (by omega))) (HFO.out.s4.congr (fun k k1 k2 => hin2.out k (by omega)))
                unfold SymC at KB
                rw [HZ2L.out] at KB
                have HKB := Lib.hid KB
                clear KB
                go_wp2_with fail
                refine HKB.out.mono ?_
                rintro e' w5 ⟨rfl, z3, hz3, hin3, hso3, hg5⟩
                go_wp2_with fail
                exact bodyPost_end (results_none rfl _ _ _) rfl ⟨rfl, z3, hz3, (HIN.out.trans (hin2.wide (Nat.le_refl _) (by omega))).trans (hin3.wide (by omega) (Nat.le_refl _)), HFO.out.join hin2 hin3 hso2 hso3, hg.trans hg5⟩
              · have hso3 : Srt (keyS s) xs mid b := (HFO.out.right (by omega) he1 he2).congr (fun k k1 k2 => hin2.out k (by omega))
                go_wp2_with fail
                exact bodyPost_end (results_none rfl _ _ _) rfl ⟨rfl, xs, h, HIN.out.trans (hin2.wide (Nat.le_refl _) (by omega)), HFO.out.join hin2 (Inn.refl _ _ _) hso2 hso3, hg⟩
              · have hso3 : Srt (keyS s) xs mid b := (HFO.out.right (by omega) he1 he2).congr (fun k k1 k2 => hin2.out k (by omega))
                go_wp2_with fail
                exact bodyPost_end (results_none rfl _ _ _) rfl ⟨rfl, xs, h, HIN.out.trans (hin2.wide (Nat.le_refl _) (by omega)), HFO.out.join hin2 (Inn.refl _ _ _) hso2 hso3, hg⟩
            · have hso2 : Srt (keyS s) xs a mid := HFO.out.left (by omega) he5 he4
              have hin2 : Inn xs xs a mid := Inn.refl _ _ _
              have HZ2L : Hid (xs.length = len) := HZL
              rcases (by omega : (mid < e ∧ e < b) ∨ ¬ mid < e ∨ (mid < e ∧ ¬ e < b)) with ⟨hcb1, hcb2⟩ | hcb1 | ⟨hcb1, hcb2⟩
              · have KB := HIH.out xs mid e b wr (by omega) h hcb1 hcb2 (by rw [HZ2L.out]; omega) (HFO.out.s3.congr (fun k k1 k2 => hin2.out k (by omega))) (HFO.out.s4.congr (fun k k1 k2 => hin2.out k (by omega)))
                unfold SymC at KB
                rw [HZ2L.out] at KB
                have HKB := Lib.hid KB
                clear KB
                go_wp2_with fail
                refine HKB.out.mono ?_
                rintro e' w5 ⟨rfl, z3, hz3, hin3, hso3, hg5⟩
                go_wp2_with fail
                exact bodyPost_end (results_none rfl _ _ _) rfl ⟨rfl, z3, hz3, (HIN.out.trans (hin2.wide (Nat.le_refl _) (by omega))).trans (hin3.wide (by omega) (Nat.le_refl _)), HFO.out.join hin2 hin3 hso2 hso3, hg.trans hg5⟩
              · have hso3 : Srt (keyS s) xs mid b := (HFO.out.right (by omega) he1 he2).congr (fun k k1 k2 => hin2.out k (by omega))
                go_wp2_with fail
                exact bodyPost_end (results_none rfl _ _ _) rfl ⟨rfl, xs, h, HIN.out.trans (hin2.wide (Nat.le_refl _) (by omega)), HFO.out.join hin2 (Inn.refl _ _ _) hso2 hso3, hg⟩
              · have hso3 : Srt (keyS s) xs mid b := (HFO.out.right (by omega) he1 he2).congr (fun k k1 k2 => hin2.out k (by omega))
                go_wp2_with fail
                exact bodyPost_end (results_none rfl _ _ _) rfl ⟨rfl, xs, h, HIN.out.trans (hin2.wide (Nat.le_refl _) (by omega)), HFO.out.join hin2 (Inn.refl _ _ _) hso2 hso3, hg⟩
          · clear hrt
            rcases (by omega : (a < st ∧ st < mid) ∨ ¬ a < st ∨ (a < st ∧ ¬ st < mid)) with ⟨hca1, hca2⟩ | hca1 | ⟨hca1, hca2⟩
            · have KA := HIH.out xs a st mid wr (by omega) h hca1 hca2 (by rw [HZL.out]; omega) HFO.out.s1 HFO.out.s2
              unfold SymC at KA
              rw [HZL.out] at KA
              have HKA := Lib.hid KA
              clear KA
              go_wp2_with fail
              refine HKA.out.mono ?_
              rintro e' w4 ⟨rfl, z2, hz2, hin2, hso2, hg4⟩
              have hg4b := hg.trans hg4
              have HZ2L : Hid (z2.length = len) := Lib.hid (by rw [hin2.len, HZL.out])
              rcases (by omega : (mid < e ∧ e < b) ∨ ¬ mid < e ∨ (mid < e ∧ ¬ e < b)) with ⟨hcb1, hcb2⟩ | hcb1 | ⟨hcb1, hcb2⟩
              · have KB := HIH.out z2 mid e b w4 (by omega) hz2 hcb1 hcb2 (by rw [HZ2L.out]; omega) (HFO.out.s3.congr (fun k k1 k2 => hin2.out k (by omega))) (HFO.out.s4.congr (fun k k1 k2 => hin2.out k (by omega)))
                unfold SymC at KB
                rw [HZ2L.out] at KB
                have HKB := Lib.hid KB
                clear KB
                go_wp2_with fail
                refine HKB.out.mono ?_
                rintro e' w5 ⟨rfl, z3, hz3, hin3, hso3, hg5⟩
                go_wp2_with fail
                exact bodyPost_end (results_none rfl _ _ _) rfl ⟨rfl, z3, hz3, (HIN.out.trans (hin2.wide (Nat.le_refl _) (by omega))).trans (hin3.wide (by omega) (Nat.le_refl _)), HFO.out.join hin2 hin3 hso2 hso3, hg4b.trans hg5⟩
              · have hso3 : Srt (keyS s) z2 mid b := (HFO.out.right (by omega) he1 he2).congr (fun k k1 k2 => hin2.out k (by omega))
                go_wp2_with fail
                exact bodyPost_end (results_none rfl _ _ _) rfl ⟨rfl, z2, hz2, HIN.out.trans (hin2.wide (Nat.le_refl _) (by omega)), HFO.out.join hin2 (Inn.refl _ _ _) hso2 hso3, hg4b⟩
              · have hso3 : Srt (keyS s) z2 mid b := (HFO.out.right (by omega) he1 he2).congr (fun k k1 k2 => hin2.out k (by omega))
                go_wp2_with fail
                exact bodyPost_end (results_none rfl _ _ _) rfl ⟨rfl, z2, hz2, HIN.out.trans (hin2.wide (Nat.le_refl _) (by omega)), HFO.out.join hin2 (Inn.refl _ _ _) hso2 hso3, hg4b⟩
            · have hso2 : Srt (keyS s) xs a mid := HFO.out.left (by omega) he5 he4
              have hin2 : Inn xs xs a mid := Inn.refl _ _ _
              have HZ2L : Hid (xs.length = len) := HZL
              rcases (by omega : (mid < e ∧ e < b) ∨ ¬ mid < e ∨ (mid < e ∧ ¬ e < b)) with ⟨hcb1, hcb2⟩ | hcb1 | ⟨hcb1, hcb2⟩
              · have KB := HIH.out xs mid e b wr (by omega) h hcb1 hcb2 (by rw [HZ2L.out]; omega) (HFO.out.s3.congr (fun k k1 k2 => hin2.out k (by omega))) (HFO.out.s4.congr (fun k k1 k2 => hin2.out k (by omega)))
                unfold SymC at KB
                rw [HZ2L.out] at KB
                have HKB := Lib.hid KB
                clear KB
                go_wp2_with fail
                refine HKB.out.mono ?_
                rintro e' w5 ⟨rfl, z3, hz3, hin3, hso3, hg5⟩
                go_wp2_with fail
                exact bodyPost_end (results_none rfl _ _ _) rfl ⟨rfl, z3, hz3, (HIN.out.trans (hin2.wide (Nat.le_refl _) (by omega))).trans (hin3.wide (by omega) (Nat.le_refl _)), HFO.out.join hin2 hin3 hso2 hso3, hg.trans hg5⟩
              · have hso3 : Srt (keyS s) xs mid b := (HFO.out.right (by omega) he1 he2).congr (fun k k1 k2 => hin2.out k (by omega))
                go_wp2_with fail
                exact bodyPost_end (results_none rfl _ _ _) rfl ⟨rfl, xs, h, HIN.out.trans (hin2.wide (Nat.le_refl _) (by omega)), HFO.out.join hin2 (Inn.refl _ _ _) hso2 hso3, hg⟩
              · have hso3 : Srt (keyS s) xs mid b := (HFO.out.right (by omega) he1 he2).congr (fun k k1 k2 => hin2.out k (by omega))
                go_wp2_with fail
                exact bodyPost_end (results_none rfl _ _ _) rfl ⟨rfl, xs, h, HIN.out.trans (hin2.wide (Nat.le_refl _) (by omega)), HFO.out.join hin2 (Inn.refl _ _ _) hso2 hso3, hg⟩
            · have hso2 : Srt (keyS s) xs a mid := HFO.out.left (by omega) he5 he4
              have hin2 : Inn xs xs a mid := Inn.refl _ _ _
              have HZ2L : Hid (xs.length = len) := HZL
              rcases (by omega : (mid < e ∧ e < b) ∨ ¬ mid < e ∨ (mid < e ∧ ¬ e < b)) with ⟨hcb1, hcb2⟩ | hcb1 | ⟨hcb1, hcb2⟩
              · have KB := HIH.out xs mid e b wr (by omega) h hcb1 hcb2 (by rw [HZ2L.out]; omega) (HFO.out.s3.congr (fun k k1 k2 => hin2.out k (by omega))) (HFO.out.s4.congr (fun k k1 k2 => hin2.out k (by omega)))
                unfold SymC at KB
                rw [HZ2L.out] at KB
                have HKB := Lib.hid KB
                clear KB
                go_wp2_with fail
                refine HKB.out.mono ?_
                rintro e' w5 ⟨rfl, z3, hz3, hin3, hso3, hg5⟩
                go_wp2_with fail
                exact bodyPost_end (results_none rfl _ _ _) rfl ⟨rfl, z3, hz3, (HIN.out.trans (hin2.wide (Nat.le_refl _) (by omega))).trans (hin3.wide (by omega) (Nat.le_refl _)), HFO.out.join hin2 hin3 hso2 hso3, hg.trans hg5⟩
              · have hso3 : Srt (keyS s) xs mid b := (HFO.out.right (by omega) he1 he2).congr (fun k k1 k2 => hin2.out k (by omega))
                go_wp2_with fail
                exact bodyPost_end (results_none rfl _ _ _) rfl ⟨rfl, xs, h, HIN.out.trans (hin2.wide (Nat.le_refl _) (by omega)), HFO.out.join hin2 (Inn.refl _ _ _) hso2 hso3, hg⟩
              · have hso3 : Srt (keyS s) xs mid b := (HFO.out.right (by omega) he1 he2).congr (fun k k1 k2 => hin2.out k (by omega))
                go_wp2_with fail
                exact bodyPost_end (results_none rfl _ _ _) rfl ⟨rfl, xs, h, HIN.out.trans (hin2.wide (Nat.le_refl _) (by omega)), HFO.out.join hin2 (Inn.refl _ _ _) hso2 hso3, hg⟩
end Go.Proofs.Ytdkgficmodcolaa
