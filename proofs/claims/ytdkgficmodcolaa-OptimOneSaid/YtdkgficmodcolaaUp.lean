/- container/heap.up on the waiting trees. -/
import Derived.Test.YtdkgficmodcolaaDown
namespace Go.Proofs.Ytdkgficmodcolaa
open Go.RowKit

def upS (key : Nat → Int × Int) : Nat → List Nat → Nat → List Nat
  | 0, ps, _ => ps
  | f + 1, ps, j => if j = 0 then ps else if lessK (key (ps.getD j 0)) (key (ps.getD ((j - 1) / 2) 0)) = true then upS key f (swapL ps ((j - 1) / 2) j) ((j - 1) / 2) else ps

set_option maxRecDepth 100000 in
set_option maxHeartbeats 800000 in
theorem up_any (base gl gs cap : Nat) (ps : List Nat) (key : Nat → Int × Int) (j : Nat) (W : World) (hj : j < ps.length) (h : Hp W base gl gs cap ps key) :
    Calls Try.prog 30 #[hpI gl, .int .i64 j] W fun e w' => e = .returned (.tuple #[]) ∧ Hp w' base gl gs cap (upS key (j + 1) ps j) key ∧ W.grownBy w' (some gs) := by
  have hfew := h.few
  obtain ⟨R, hR⟩ : ∃ R, R = upS key (j + 1) ps j := ⟨_, rfl⟩
  rw [← hR]
  go_enter Try.func30, Try.ntmps30
  go_wp2_with fail
  go_loopw [1] (fun v1 (w : World) => ∃ (j' f : Nat) (ps' : List Nat), v1 = .int .i64 j' ∧ j' < ps'.length ∧ j' < f ∧ ps'.length ≤ 1000 ∧ R = upS key f ps' j' ∧ Hp w base gl gs cap ps' key ∧ W.grownBy w (some gs)) (fun v1 _ => (intOf v1).toNat)
  case atStart => exact ⟨j, j + 1, ps, rfl, hj, by omega, hfew, hR, h, World.grownBy.refl _ _⟩
  case round =>
    clear hj h hR
    obtain ⟨j', f, ps', rfl, hj, hf, hpl, hR, h, hg⟩ := hrel
    obtain ⟨f', rfl⟩ : ∃ f', f = f' + 1 := ⟨f - 1, by omega⟩
    rw [upS] at hR
    by_cases hj0 : j' = 0
    · subst hj0
      rw [if_pos rfl] at hR
      subst hR
      go_wp2_with fail
      exact bodyPost_end (results_none rfl _ _ _) rfl ⟨rfl, h, hg⟩
    · rw [if_neg hj0] at hR
      obtain ⟨i, hi⟩ : ∃ i, i = (j' - 1) / 2 := ⟨_, rfl⟩
      rw [← hi] at hR
      have HR := Lib.hid hR
      have hq : Int.tdiv ((j' : Int) - 1) 2 = (i : Int) := by rw [Int.tdiv_eq_ediv_of_nonneg (by omega)]; omega
      have hq2 : ((j' : Int) - 1) / 2 = (i : Int) := by omega
      have hne : ((i : Int) == (j' : Int)) = false := by rw [beq_eq_false_iff_ne]; omega
      have hbox := h.box.cell 0
      simp only [List.getElem?_toArray, List.getElem?_cons_zero] at hbox
      have hm := meth_Less gl _ wr hbox
      have hij : i < j' := by omega
      clear hR hi
      go_wp2_with fail
      refine (h.less (i := j') (j := i) (by omega) (by omega)).mono ?_
      rintro e w1 ⟨rfl, h1, hb1⟩
      have hbox1 := h1.box.cell 0
      simp only [List.getElem?_toArray, List.getElem?_cons_zero] at hbox1
      have hm1 := meth_Swap gl _ w1 hbox1
      have hg1 := grow_below hg hb1
      cases hc : lessK (key (ps'.getD j' 0)) (key (ps'.getD i 0)) with
      | false =>
        have hRe : R = ps' := by rw [HR.out, if_neg (by rw [hc]; simp)]
        subst hRe
        go_wp2_with fail
        exact bodyPost_end (results_none rfl _ _ _) rfl ⟨rfl, h1, hg1⟩
      | true =>
        have hR2 : R = upS key f' (swapL ps' i j') i := by rw [HR.out, if_pos hc]
        have HR2 := Lib.hid hR2
        clear hR2
        go_wp2_with fail
        refine (h1.swap (i := i) (j := j') (by omega) (by omega)).mono ?_
        rintro e w3 ⟨rfl, h3, hg3⟩
        go_wp2_with fail
        go_roundw
        case rel => exact ⟨i, f', swapL ps' i j', rfl, by rw [swapL_length]; omega, by omega, by rw [swapL_length]; exact hpl, HR2.out, h3, hg1.trans hg3⟩
        case measure => simp [intOf]; omega
end Go.Proofs.Ytdkgficmodcolaa
