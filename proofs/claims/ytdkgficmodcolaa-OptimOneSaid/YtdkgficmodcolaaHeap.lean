/- container/heap's Init, Pop and Push on the waiting trees. -/
import Derived.Test.YtdkgficmodcolaaTPush
namespace Go.Proofs.Ytdkgficmodcolaa
open Go.RowKit

theorem downS_length (key : Nat → Int × Int) (n : Nat) : ∀ (f : Nat) (ps : List Nat) (i : Nat), (downS key n f ps i).length = ps.length
  | 0, _, _ => rfl
  | f + 1, ps, i => by
    unfold downS
    split
    · rfl
    · split
      · rw [downS_length key n f, swapL_length]
      · rfl
theorem upS_length (key : Nat → Int × Int) : ∀ (f : Nat) (ps : List Nat) (j : Nat), (upS key f ps j).length = ps.length
  | 0, _, _ => rfl
  | f + 1, ps, j => by
    unfold upS
    split
    · rfl
    · split
      · rw [upS_length key f, swapL_length]
      · rfl
def initS (key : Nat → Int × Int) (n : Nat) : Nat → List Nat → List Nat
  | 0, ps => ps
  | k + 1, ps => initS key n k (downS key n n ps k)
theorem initS_length (key : Nat → Int × Int) (n : Nat) : ∀ (k : Nat) (ps : List Nat), (initS key n k ps).length = ps.length
  | 0, _ => rfl
  | k + 1, ps => by rw [initS, initS_length key n k, downS_length]
/-- the list behind Pop's swap and down: its last is what Pop hands out -/
def popS (key : Nat → Int × Int) (ps : List Nat) : List Nat := downS key (ps.length - 1) (ps.length - 1) (swapL ps 0 (ps.length - 1)) 0
theorem popS_length (key : Nat → Int × Int) (ps : List Nat) : (popS key ps).length = ps.length := by rw [popS, downS_length, swapL_length]
def pushS (key : Nat → Int × Int) (ps : List Nat) (g : Nat) : List Nat := upS key (ps.length + 1) (ps ++ [g]) ps.length

set_option maxRecDepth 100000 in
set_option maxHeartbeats 800000 in
theorem hinit_any (base gl gs cap : Nat) (ps : List Nat) (key : Nat → Int × Int) (W : World) (h : Hp W base gl gs cap ps key) (h1 : 1 ≤ ps.length) :
    Calls Try.prog 22 #[hpI gl] W fun e w' => e = .returned (.tuple #[]) ∧ Hp w' base gl gs cap (initS key ps.length (ps.length / 2) ps) key ∧ W.grownBy w' (some gs) := by
  have hfew := h.few
  obtain ⟨n, hn⟩ : ∃ n, n = ps.length := ⟨_, rfl⟩
  have hbox := h.box.cell 0
  simp only [List.getElem?_toArray, List.getElem?_cons_zero] at hbox
  have hm := meth_Len gl _ W hbox
  have KL := Lib.hid (len_any (some ⟨gs, 0, none⟩) ps.length cap W (by omega))
  obtain ⟨R, hR⟩ : ∃ R, R = initS key ps.length (ps.length / 2) ps := ⟨_, rfl⟩
  rw [← hR]
  rw [← hn] at hfew h1 hR hm KL
  have HN := Lib.hid hn
  obtain ⟨q, hq⟩ : ∃ q, q = n / 2 := ⟨_, rfl⟩
  rw [← hq] at hR
  have hqd : Int.tdiv (n : Int) 2 = (q : Int) := by rw [Int.tdiv_eq_ediv_of_nonneg (by omega)]; omega
  have hq1 : q ≤ 500 := by omega
  have hqn : q < n := by omega
  clear hn hbox hq
  go_enter Try.func22, Try.ntmps22
  go_wp2_with fail
  refine KL.out.mono ?_
  rintro e w1 ⟨rfl, rfl⟩
  clear hm
  go_wp2_with fail
  clear hqd
  go_loopw [3] (fun v3 (w : World) => ∃ (k : Nat) (ps' : List Nat), v3 = .int .i64 ((k : Int) - 1) ∧ k ≤ q ∧ ps'.length = n ∧ R = initS key n k ps' ∧ Hp w base gl gs cap ps' key ∧ W.grownBy w (some gs)) (fun v3 _ => (intOf v3 + 1).toNat)
  case atStart => exact ⟨q, ps, by first | rfl | (congr 1; omega), Nat.le_refl _, HN.out.symm, hR, h, World.grownBy.refl _ _⟩
  case round =>
    clear h hR
    obtain ⟨k, ps', rfl, hk, hpl, hR, h, hg⟩ := hrel
    rcases k with _ | k
    · rw [initS] at hR
      subst hR
      have hneg : ¬ (0 : Int) ≤ ((0 : Nat) : Int) - 1 := by omega
      go_wp2_with fail
      exact bodyPost_end (results_none rfl _ _ _) rfl ⟨rfl, h, hg⟩
    · rw [initS] at hR
      have HR := Lib.hid hR
      have HPL := Lib.hid hpl
      obtain ⟨M, hM⟩ : ∃ M : Int, M = ((k + 1 : Nat) : Int) - 1 := ⟨_, rfl⟩
      have hMk : M = (k : Int) := by omega
      rw [← hM]
      clear hM
      subst hMk
      have KD := Lib.hid (down_any base gl gs cap ps' key k n wr (by omega) (by omega) h)
      have hk500 : k ≤ 500 := by omega
      clear hR hpl h
      go_wp2_with fail
      go_at_call 29
      refine KD.out.mono ?_
      rintro e w2 ⟨⟨b, rfl⟩, h2, hg2⟩
      go_wp2_with fail
      go_roundw
      case rel => exact ⟨k, _, rfl, by omega, by rw [downS_length]; exact HPL.out, HR.out, h2, hg.trans hg2⟩
      case measure => simp [intOf]
theorem popS_last (key : Nat → Int × Int) (ps : List Nat) (h : 1 ≤ ps.length) : popS key ps = (popS key ps).take (ps.length - 1) ++ [(popS key ps).getD (ps.length - 1) 0] := by
  have hl := popS_length key ps
  have hg := getD_some (ps := popS key ps) (i := ps.length - 1) (by omega)
  have e : (popS key ps).take (ps.length - 1 + 1) = popS key ps := List.take_of_length_le (by omega)
  rw [List.take_add_one, hg] at e
  simpa using e.symm

set_option maxRecDepth 100000 in
set_option maxHeartbeats 800000 in
theorem hpop_any (base gl gs cap : Nat) (ps : List Nat) (key : Nat → Int × Int) (W : World) (h : Hp W base gl gs cap ps key) (h1 : 1 ≤ ps.length) (hgl : base ≤ gl) :
    Calls Try.prog 24 #[hpI gl] W fun e w' => e = .returned (.iface 56 (.pointer (some ⟨(popS key ps).getD (ps.length - 1) 0, 0, none⟩))) ∧ Hp w' base gl gs cap ((popS key ps).take (ps.length - 1)) key ∧ Two W w' gl gs := by
  have hfew := h.few
  obtain ⟨n, hn⟩ : ∃ n, ps.length = n + 1 := ⟨ps.length - 1, by omega⟩
  have hbox := h.box.cell 0
  simp only [List.getElem?_toArray, List.getElem?_cons_zero] at hbox
  have hm := meth_Len gl _ W hbox
  have hm2 := meth_Swap gl _ W hbox
  have KL := Lib.hid (len_any (some ⟨gs, 0, none⟩) ps.length cap W (by omega))
  have KS := Lib.hid (h.swap (i := 0) (j := n) (by omega) (by omega))
  have HP : Hid (∀ w, Hp w base gl gs cap (swapL ps 0 n) key → Calls Try.prog 29 #[hpI gl, .int .i64 0, .int .i64 n] w fun e w' => RetBool e ∧ Hp w' base gl gs cap (popS key ps) key ∧ w.grownBy w' (some gs)) := Lib.hid (fun w hw => by
    have := down_any base gl gs cap (swapL ps 0 n) key 0 n w (by rw [swapL_length]; omega) (by rw [swapL_length]; omega) hw
    have e : popS key ps = downS key n n (swapL ps 0 n) 0 := by unfold popS; rw [show ps.length - 1 = n by omega]
    rw [e]
    exact this)
  have hlast := popS_last key ps h1
  rw [show ps.length - 1 = n by omega] at hlast ⊢
  obtain ⟨X, hX⟩ : ∃ X, X = (popS key ps).take n := ⟨_, rfl⟩
  obtain ⟨g, hg⟩ : ∃ g, g = (popS key ps).getD n 0 := ⟨_, rfl⟩
  rw [← hX, ← hg] at hlast ⊢
  rw [hlast] at HP
  have hn1 : (n : Int) + 1 - 1 = (n : Int) := by omega
  rw [hn] at hm hm2 KL KS
  have hn1000 : n + 1 ≤ 1000 := by omega
  clear hn hX hg hlast h hbox h1 hfew
  go_enter Try.func24, Try.ntmps24
  go_wp2_with fail
  refine KL.out.mono ?_
  rintro e w1 ⟨rfl, rfl⟩
  clear KL hm
  go_wp2_with fail
  refine KS.out.mono ?_
  rintro e w2 ⟨rfl, h2, hg2⟩
  have hbl2 : w2.heap.size = w2.heap.size := rfl
  go_wp2_with fail
  go_at_call 29
  refine (HP.out _ h2).mono ?_
  rintro e w3 ⟨⟨b, rfl⟩, h3, hg3⟩
  have hm3 := meth_Pop gl w3
  go_wp2_with fail
  refine (tpop_any base gl gs cap X g key _ h3 hgl).mono ?_
  rintro e w4 ⟨rfl, h4, hg4⟩
  go_wp2_with fail
  go_ret
  exact ⟨rfl, h4, ((Two.right gl hg2).trans (Two.right gl hg3)).trans (Two.left gs hg4)⟩
theorem Two.newer {w w' w2 : World} {a b b' : Nat} (h : Two w w' a b) (h2 : w'.grownBy w2 (some b')) (hb : b' = b ∨ w.heap.size ≤ b') : Two w w2 a b :=
  ⟨h2.os.trans h.os, h2.tape.trans h.tape, h2.output.trans h.output, Nat.le_trans h.size h2.size, fun k hk h1 h3 => by
    rw [h2.block k (Nat.lt_of_lt_of_le hk h.size) (fun e => by injection e with e; omega)]
    exact h.block k hk h1 h3⟩

set_option maxRecDepth 100000 in
set_option maxHeartbeats 800000 in
theorem hpush_any (base gl gs cap : Nat) (ps : List Nat) (g : Nat) (key : Nat → Int × Int) (W : World) (h : Hp W base gl gs cap ps key) (hk : KeyAt W g (key g)) (hgs : g ≠ gs) (hgl : g ≠ gl) (hb : base ≤ W.heap.size) (hf : ps.length + 1 ≤ 1000) :
    Calls Try.prog 25 #[hpI gl, .iface 56 (.pointer (some ⟨g, 0, none⟩))] W fun e w' => e = .returned (.tuple #[]) ∧ ∃ gs' cap', Hp w' base gl gs' cap' (pushS key ps g) key ∧ Two W w' gl gs ∧ (gs' = gs ∨ W.heap.size ≤ gs') := by
  have KT := Lib.hid (tpush_any base gl gs cap ps g key W h hk hgs hgl hb hf)
  have hm := meth_Push gl W
  obtain ⟨n, hn⟩ : ∃ n, n = ps.length := ⟨_, rfl⟩
  have hpl : (ps ++ [g]).length = n + 1 := by simp [hn]
  have HPL := Lib.hid hpl
  have hnf : n + 1 ≤ 1000 := by omega
  obtain ⟨X, hX⟩ : ∃ X, X = ps ++ [g] := ⟨_, rfl⟩
  have hps : pushS key ps g = upS key (n + 1) X n := by rw [pushS, hX, hn]
  rw [← hX] at KT HPL
  rw [hps]
  obtain ⟨R, hR⟩ : ∃ R, R = upS key (n + 1) X n := ⟨_, rfl⟩
  have HU : Hid (∀ (gs' cap' : Nat) (w : World), Hp w base gl gs' cap' X key → Calls Try.prog 30 #[hpI gl, .int .i64 n] w fun e w' => e = .returned (.tuple #[]) ∧ Hp w' base gl gs' cap' R key ∧ w.grownBy w' (some gs')) := Lib.hid (fun gs' cap' w hw => by
    rw [hR]
    exact up_any base gl gs' cap' X key n w (by rw [hX, hpl]; omega) hw)
  rw [← hR]
  clear hn hpl hX hps hR h hk hf
  go_enter Try.func25, Try.ntmps25
  go_wp2_with fail
  refine KT.out.mono ?_
  rintro e w1 ⟨rfl, gs', cap', h1, ht1, ho1⟩
  have hbox1 := h1.box.cell 0
  simp only [List.getElem?_toArray, List.getElem?_cons_zero] at hbox1
  rw [HPL.out] at hbox1
  have hm1 := meth_Len gl _ w1 hbox1
  have hn1 : (n : Int) + 1 - 1 = (n : Int) := by omega
  clear KT hm
  go_wp2_with fail
  refine (len_any (some ⟨gs', 0, none⟩) (n + 1) cap' w1 (by omega)).mono ?_
  rintro e w2 ⟨rfl, rfl⟩
  go_wp2_with fail
  go_at_call 30
  refine (HU.out gs' cap' w1 h1).mono ?_
  rintro e w3 ⟨rfl, h3, hg3⟩
  go_wp2_with fail
  exact bodyPost_end (results_none rfl _ _ _) rfl ⟨rfl, gs', cap', h3, ht1.newer hg3 ho1, ho1⟩
end Go.Proofs.Ytdkgficmodcolaa
