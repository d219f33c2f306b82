/- container/heap.down and up on the waiting trees. -/
import Derived.Test.YtdkgficmodcolaaSwap
namespace Go.Proofs.Ytdkgficmodcolaa
open Go.RowKit

def downJ (key : Nat → Int × Int) (n : Nat) (ps : List Nat) (i : Nat) : Nat :=
  if 2 * i + 2 < n ∧ lessK (key (ps.getD (2 * i + 2) 0)) (key (ps.getD (2 * i + 1) 0)) = true then 2 * i + 2 else 2 * i + 1
def downS (key : Nat → Int × Int) (n : Nat) : Nat → List Nat → Nat → List Nat
  | 0, ps, _ => ps
  | f + 1, ps, i => if n ≤ 2 * i + 1 then ps else if lessK (key (ps.getD (downJ key n ps i) 0)) (key (ps.getD i 0)) = true then downS key n f (swapL ps i (downJ key n ps i)) (downJ key n ps i) else ps
def RetBool (e : Ending) : Prop := ∃ b, e = .returned (.bool b)
abbrev hpI (gl : Nat) : Value := .iface 62 (.pointer (some ⟨gl, 0, none⟩))

theorem grow_below {w0 w w' : World} {g : Nat} (h : w0.grownBy w (some g)) (hb : Below w.heap.size w w') : w0.grownBy w' (some g) :=
  h.trans ⟨hb.os, hb.tape, hb.output, hb.size, fun k hk _ => hb.block k hk⟩

set_option maxRecDepth 100000 in
set_option maxHeartbeats 4000000 in
theorem down_any (base gl gs cap : Nat) (ps : List Nat) (key : Nat → Int × Int) (i n : Nat) (W : World) (hn : n ≤ ps.length) (hi : i < ps.length) (h : Hp W base gl gs cap ps key) :
    Calls Try.prog 29 #[hpI gl, .int .i64 i, .int .i64 n] W fun e w' => RetBool e ∧ Hp w' base gl gs cap (downS key n n ps i) key ∧ W.grownBy w' (some gs) := by
  have hfew := h.few
  have hL := Lib.hid (fun v w hc => meth_Less gl v w hc)
  obtain ⟨R, hR⟩ : ∃ R, R = downS key n n ps i := ⟨_, rfl⟩
  rw [← hR]
  go_enter Try.func29, Try.ntmps29
  go_wp2_with fail
  go_loopw [7] (fun v7 (w : World) => ∃ (i' f : Nat) (ps' : List Nat), v7 = .int .i64 i' ∧ i' < ps'.length ∧ n ≤ i' + f ∧ ps'.length = ps.length ∧ R = downS key n f ps' i' ∧ Hp w base gl gs cap ps' key ∧ W.grownBy w (some gs)) (fun v7 _ => n - (intOf v7).toNat)
  case atStart => exact ⟨i, n, ps, rfl, hi, by omega, rfl, hR, h, World.grownBy.refl _ _⟩
  case round =>
    clear hi h hR
    obtain ⟨i', f, ps', rfl, hi, hf, hpl, hR, h, hg⟩ := hrel
    have hnp : n ≤ ps'.length := by omega
    have hfew' : ps'.length ≤ 1000 := by omega
    have HPL := Lib.hid hpl
    clear hpl
    by_cases hend : n ≤ 2 * i' + 1
    · have hRe : R = ps' := by
        rw [hR]
        cases f with
        | zero => rfl
        | succ f => rw [downS, if_pos hend]
      subst hRe
      clear hR
      go_wp2_with fail
      go_ret
      exact ⟨⟨_, rfl⟩, h, hg⟩
    · obtain ⟨f', rfl⟩ : ∃ f', f = f' + 1 := ⟨f - 1, by omega⟩
      rw [downS, if_neg hend] at hR
      have HR := Lib.hid hR
      clear hR
      have hbox := h.box.cell 0
      simp only [List.getElem?_toArray, List.getElem?_cons_zero] at hbox
      have hm := hL.out _ _ hbox
      obtain ⟨a, ha⟩ : ∃ a, a = 2 * i' + 1 := ⟨_, rfl⟩
      obtain ⟨b, hb⟩ : ∃ b, b = a + 1 := ⟨_, rfl⟩
      have HA2 := Lib.hid (show 2 * (i' : Int) + 1 = (a : Int) by omega)
      have HB2 := Lib.hid (show (a : Int) + 1 = (b : Int) by omega)
      have han : ¬ (n : Int) ≤ 2 * (i' : Int) + 1 := by omega
      by_cases h2 : b < n
      · have hbn : 2 * (i' : Int) + 1 + 1 < (n : Int) := by omega
        go_wp2_with fail
        rw [HA2.out, HB2.out]
        refine (h.less (i := b) (j := a) (by omega) (by omega)).mono ?_
        rintro e w1 ⟨rfl, h1, hb1⟩
        have hbox1 := h1.box.cell 0
        simp only [List.getElem?_toArray, List.getElem?_cons_zero] at hbox1
        have hm1 := hL.out _ _ hbox1
        have hg1 := grow_below hg hb1
        cases hc : lessK (key (ps'.getD b 0)) (key (ps'.getD a 0)) with
        | true =>
          go_wp2_with fail
          rw [HA2.out, HB2.out]
          have hdj : downJ key n ps' i' = b := by unfold downJ; rw [show 2 * i' + 2 = b by omega, show 2 * i' + 1 = a by omega, if_pos ⟨h2, hc⟩]
          have HDJ := Lib.hid hdj
          clear hdj
          refine (h1.less (i := b) (j := i') (by omega) (by omega)).mono ?_
          rintro e w2 ⟨rfl, h2', hb2⟩
          have hbox2 := h2'.box.cell 0
          simp only [List.getElem?_toArray, List.getElem?_cons_zero] at hbox2
          have hm2 := meth_Swap gl _ w2 hbox2
          have hg2 := grow_below (hg1) hb2
          cases hc2 : lessK (key (ps'.getD b 0)) (key (ps'.getD i' 0)) with
          | false =>
            have hRe : R = ps' := by rw [HR.out, HDJ.out, if_neg (by rw [hc2]; simp)]
            subst hRe
            go_wp2_with fail
            go_ret
            exact ⟨⟨_, rfl⟩, h2', hg2⟩
          | true =>
            have hR2 : R = downS key n f' (swapL ps' i' b) b := by rw [HR.out, HDJ.out, if_pos hc2]
            have HR2 := Lib.hid hR2
            clear hR2
            go_wp2_with fail
            rw [HA2.out, HB2.out]
            refine (h2'.swap (i := i') (j := b) (by omega) (by omega)).mono ?_
            rintro e w3 ⟨rfl, h3, hg3⟩
            go_wp2_with fail
            go_roundw
            case rel => exact ⟨b, f', swapL ps' i' b, by first | rfl | (congr 1; done) | (have := HA2.out; have := HB2.out; congr 1; omega), by rw [swapL_length]; omega, by omega, by rw [swapL_length]; exact HPL.out, HR2.out, h3, hg2.trans hg3⟩
            case measure => have := HA2.out; have := HB2.out; simp [intOf]; omega
        | false =>
          go_wp2_with fail
          rw [HA2.out]
          have hdj : downJ key n ps' i' = a := by unfold downJ; rw [show 2 * i' + 2 = b by omega, show 2 * i' + 1 = a by omega, if_neg (by rw [hc]; simp)]
          have HDJ := Lib.hid hdj
          clear hdj
          refine (h1.less (i := a) (j := i') (by omega) (by omega)).mono ?_
          rintro e w2 ⟨rfl, h2', hb2⟩
          have hbox2 := h2'.box.cell 0
          simp only [List.getElem?_toArray, List.getElem?_cons_zero] at hbox2
          have hm2 := meth_Swap gl _ w2 hbox2
          have hg2 := grow_below (hg1) hb2
          cases hc2 : lessK (key (ps'.getD a 0)) (key (ps'.getD i' 0)) with
          | false =>
            have hRe : R = ps' := by rw [HR.out, HDJ.out, if_neg (by rw [hc2]; simp)]
            subst hRe
            go_wp2_with fail
            go_ret
            exact ⟨⟨_, rfl⟩, h2', hg2⟩
          | true =>
            have hR2 : R = downS key n f' (swapL ps' i' a) a := by rw [HR.out, HDJ.out, if_pos hc2]
            have HR2 := Lib.hid hR2
            clear hR2
            go_wp2_with fail
            rw [HA2.out]
            refine (h2'.swap (i := i') (j := a) (by omega) (by omega)).mono ?_
            rintro e w3 ⟨rfl, h3, hg3⟩
            go_wp2_with fail
            go_roundw
            case rel => exact ⟨a, f', swapL ps' i' a, by first | rfl | (congr 1; done) | (have := HA2.out; have := HB2.out; congr 1; omega), by rw [swapL_length]; omega, by omega, by rw [swapL_length]; exact HPL.out, HR2.out, h3, hg2.trans hg3⟩
            case measure => have := HA2.out; have := HB2.out; simp [intOf]; omega
      · have hbn : ¬ 2 * (i' : Int) + 1 + 1 < (n : Int) := by omega
        go_wp2_with fail
        rw [HA2.out]
        have hdj : downJ key n ps' i' = a := by unfold downJ; rw [show 2 * i' + 2 = b by omega, show 2 * i' + 1 = a by omega, if_neg (by omega)]
        have HDJ := Lib.hid hdj
        clear hdj
        refine (h.less (i := a) (j := i') (by omega) (by omega)).mono ?_
        rintro e w2 ⟨rfl, h2', hb2⟩
        have hbox2 := h2'.box.cell 0
        simp only [List.getElem?_toArray, List.getElem?_cons_zero] at hbox2
        have hm2 := meth_Swap gl _ w2 hbox2
        have hg2 := grow_below (hg) hb2
        cases hc2 : lessK (key (ps'.getD a 0)) (key (ps'.getD i' 0)) with
        | false =>
          have hRe : R = ps' := by rw [HR.out, HDJ.out, if_neg (by rw [hc2]; simp)]
          subst hRe
          go_wp2_with fail
          go_ret
          exact ⟨⟨_, rfl⟩, h2', hg2⟩
        | true =>
          have hR2 : R = downS key n f' (swapL ps' i' a) a := by rw [HR.out, HDJ.out, if_pos hc2]
          have HR2 := Lib.hid hR2
          clear hR2
          go_wp2_with fail
          rw [HA2.out]
          refine (h2'.swap (i := i') (j := a) (by omega) (by omega)).mono ?_
          rintro e w3 ⟨rfl, h3, hg3⟩
          go_wp2_with fail
          go_roundw
          case rel => exact ⟨a, f', swapL ps' i' a, by first | rfl | (congr 1; done) | (have := HA2.out; have := HB2.out; congr 1; omega), by rw [swapL_length]; omega, by omega, by rw [swapL_length]; exact HPL.out, HR2.out, h3, hg2.trans hg3⟩
          case measure => have := HA2.out; have := HB2.out; simp [intOf]; omega
end Go.Proofs.Ytdkgficmodcolaa
