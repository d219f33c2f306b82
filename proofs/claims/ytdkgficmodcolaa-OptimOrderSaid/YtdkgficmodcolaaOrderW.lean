/- law11.OptimOrder is true. -/
import Derived.Test.YtdkgficmodcolaaKnown
import Derived.Test.YtdkgficmodcolaaIsRow
import Derived.Lib.QuietBelow
import Derived.BigQuiet
namespace Go.Proofs.Ytdkgficmodcolaa
open Go.RowKit Go.Sort

theorem weights_at {l : List Int} (h : Tame l) {i : Nat} (hi : i < 256) : (weightsS l).getD i 0 = l.getD i 0 ∧ 0 ≤ l.getD i 0 ∧ l.getD i 0 ≤ 1048576 := by
  have hb : 0 ≤ l.getD i 0 ∧ l.getD i 0 ≤ 1048576 := by
    by_cases hl : i < l.length
    · have : l.getD i 0 ∈ l := by rw [List.getD_eq_getElem?_getD, List.getElem?_eq_getElem hl]; exact List.getElem_mem hl
      exact h _ this
    · rw [List.getD_eq_getElem?_getD, List.getElem?_eq_none (by omega)]; simp
  refine ⟨?_, hb⟩
  rw [weightsS_at _ _ hi]
  unfold clipW; omega
theorem own_list {w : World} {base : Nat} {v : Value} {l : List Int} (h : w.ownsRow base 3 1 v l.length (intV l)) (ht : Tame l) (hl : l.length ≤ 300) : ∃ A c, v = .slice A l.length c ∧ ListAt w l A l.length := by
  obtain ⟨A, c, rfl, hr⟩ := own_form h
  exact ⟨A, c, rfl, ⟨rfl, ht.wf, hr, by omega⟩⟩
set_option maxRecDepth 100000 in
set_option maxHeartbeats 2000000 in
theorem order_walk (A : Option Addr) (cap len : Nat) (cs : List Int) (k i j : Nat) (W : World) (hcl : cs.length = len) (hcb : AreBytes cs) (hr : Reads W W.heap.size 1 A len (bytesV cs)) (hl : len ≤ 9223372036854775807) (hk : k ≤ 255) (hi : i ≤ 255) (hj : j ≤ 255) :
    Calls Try.prog 4 #[.slice A len cap, .int .u8 k, .int .u8 i, .int .u8 j] W fun e w' => e = .returned (.bool true) ∧ Below W.heap.size W w' := by
  have KO := Lib.hid (often_any A cap len cs k W hcl hcb hr hl hk)
  clear hcl hcb hr
  go_enter Try.func4, Try.ntmps4
  go_wp2_with fail
  go_at_call 7
  refine KO.out.mono ?_
  rintro e w1 ⟨v, l, rfl, hown, htm, hll, hb1⟩
  obtain ⟨A1, c1, rfl, hla⟩ := own_list hown htm hll
  have KS := Lib.hid (sizesW_any A1 c1 l.length l w1 hla.hl hla.wf hla.rd hla.le)
  have HTM := Lib.hid htm
  obtain ⟨n, hn⟩ : ∃ n, n = l.length := ⟨_, rfl⟩
  rw [← hn] at KS hla hll ⊢
  have HLA := Lib.hid hla
  clear hown htm hla hn KO
  go_wp2_with fail
  go_at_call 8
  refine KS.out.mono ?_
  rintro e w2 ⟨R, g, rfl, hok, hB, hb2⟩
  have hla2 := HLA.out.below hb2
  have hbe2 := hb1.trans (hb2.mono hb1.size)
  have KI := Lib.hid (at_any A1 c1 n l i w2 hla2.hl hla2.wf hla2.rd hla2.le (by omega))
  have KJ := Lib.hid (at_any A1 c1 n l j w2 hla2.hl hla2.wf hla2.rd hla2.le (by omega))
  obtain ⟨wi, i0, i1⟩ := weights_at HTM.out (i := i) (by omega)
  obtain ⟨wj, j0, j1⟩ := weights_at HTM.out (i := j) (by omega)
  have hRl := hok.len
  have ri := hok.nn i
  have rj := hok.nn j
  have ci := fun (w : World) (h : Blk w g 43 (intsC R)) => (h.cell i).trans (intsC_at R i (by omega))
  have cj := fun (w : World) (h : Blk w g 43 (intsC R)) => (h.cell j).trans (intsC_at R j (by omega))
  have z1 : l.getD i 0 = 0 ↔ R.getD i 0 = 0 := by
    have := hok.comes_iff (v := i) (by omega)
    rw [wi] at this; omega
  have z2 : l.getD j 0 = 0 ∨ l.getD i 0 ≤ l.getD j 0 ∨ R.getD i 0 ≤ R.getD j 0 := by
    have := hok.ord i j (by omega) (by omega)
    rw [wi, wj] at this
    by_cases e1 : l.getD j 0 = 0
    · exact .inl e1
    · by_cases e2 : l.getD i 0 ≤ l.getD j 0
      · exact .inr (.inl e2)
      · exact .inr (.inr (this (by omega) (by omega)))
  generalize l.getD i 0 = a at *
  generalize l.getD j 0 = b at *
  generalize R.getD i 0 = x at *
  generalize R.getD j 0 = y at *
  have hma : min a 1048576 = a := by omega
  have hmb : min b 1048576 = b := by omega
  have HB := Lib.hid hB
  have HZ1 := Lib.hid z1
  have HZ2 := Lib.hid z2
  have CI := Lib.hid ci
  have CJ := Lib.hid cj
  clear hok hB hb2 hla2 hb1 KS HLA wi wj hRl ci cj z1 z2
  go_wp2_with fail
  refine KI.out.mono ?_
  rintro e w3 ⟨rfl, rfl⟩
  go_wp2_with fail
  refine KJ.out.mono ?_
  rintro e w3 ⟨rfl, rfl⟩
  go_upto_region 7 with fail
  have ci := fun d os => cell_regrown (CI.out w2 HB.out) d os
  have cj := fun d os => cell_regrown (CJ.out w2 HB.out) d os
  have ck : ∀ d os, Calls Try.prog 9 #[] (grow (redrawn w2 d) os) fun e w'' => e = .returned (.bool true) ∧ ∃ p : Regrown, w'' = grow (redrawn w2 p.d) p.os := fun d os => Calls.regrown_of (known_any _)
  have hil : (i : Int) < 256 := by omega
  have hjl : (j : Int) < 256 := by omega
  rcases (by omega : b = 0 ∨ (b ≠ 0 ∧ a ≤ b) ∨ (b ≠ 0 ∧ ¬ a ≤ b)) with rfl | ⟨e1, e2⟩ | ⟨e1, e2⟩
  · by_cases ea : a = 0
    · have ex := HZ1.out.1 ea
      subst ea
      subst ex
      clear HZ1 HZ2
      refine wp_region_quiet_below (by kernel_rfl) (by kernel_rfl) ?_
      repeat (go_big_quiet_step (exact ck _ _))
      refine wpQuiet_nil ?_
      intro _ hw'
      obtain ⟨⟨dq, osq⟩, hw''⟩ := hw'
      subst hw''
      go_wp2_with fail
      go_ret
      exact ⟨rfl, hbe2.trans ((below_regrown w2 dq osq).mono hbe2.size)⟩
    · have ex : x ≠ 0 := fun e => ea (HZ1.out.2 e)
      have ha0 : (a == 0) = false := by simp; omega
      have hx0 : (x == 0) = false := by simp; omega
      refine wp_region_quiet_below (by kernel_rfl) (by kernel_rfl) ?_
      repeat (go_big_quiet_step (exact ck _ _))
      refine wpQuiet_nil ?_
      intro _ hw'
      obtain ⟨⟨dq, osq⟩, hw''⟩ := hw'
      subst hw''
      go_wp2_with fail
      go_ret
      exact ⟨rfl, hbe2.trans ((below_regrown w2 dq osq).mono hbe2.size)⟩
  · have hb0 : (b == 0) = false := by simp; omega
    have hab : decide (a ≤ b) = true := by simp; omega
    by_cases ea : a = 0
    · have ex := HZ1.out.1 ea
      subst ea
      subst ex
      clear HZ1 HZ2
      refine wp_region_quiet_below (by kernel_rfl) (by kernel_rfl) ?_
      repeat (go_big_quiet_step (exact ck _ _))
      refine wpQuiet_nil ?_
      intro _ hw'
      obtain ⟨⟨dq, osq⟩, hw''⟩ := hw'
      subst hw''
      go_wp2_with fail
      go_ret
      exact ⟨rfl, hbe2.trans ((below_regrown w2 dq osq).mono hbe2.size)⟩
    · have ex : x ≠ 0 := fun e => ea (HZ1.out.2 e)
      have ha0 : (a == 0) = false := by simp; omega
      have hx0 : (x == 0) = false := by simp; omega
      refine wp_region_quiet_below (by kernel_rfl) (by kernel_rfl) ?_
      repeat (go_big_quiet_step (exact ck _ _))
      refine wpQuiet_nil ?_
      intro _ hw'
      obtain ⟨⟨dq, osq⟩, hw''⟩ := hw'
      subst hw''
      go_wp2_with fail
      go_ret
      exact ⟨rfl, hbe2.trans ((below_regrown w2 dq osq).mono hbe2.size)⟩
  · have hb0 : (b == 0) = false := by simp; omega
    have hab : decide (a ≤ b) = false := by simp; omega
    have hxy : x ≤ y := by have := HZ2.out; omega
    have hxy2 : decide (x ≤ y) = true := by simp; omega
    by_cases ea : a = 0
    · have ex := HZ1.out.1 ea
      subst ea
      subst ex
      clear HZ1 HZ2
      refine wp_region_quiet_below (by kernel_rfl) (by kernel_rfl) ?_
      repeat (go_big_quiet_step (exact ck _ _))
      refine wpQuiet_nil ?_
      intro _ hw'
      obtain ⟨⟨dq, osq⟩, hw''⟩ := hw'
      subst hw''
      go_wp2_with fail
      go_ret
      exact ⟨rfl, hbe2.trans ((below_regrown w2 dq osq).mono hbe2.size)⟩
    · have ex : x ≠ 0 := fun e => ea (HZ1.out.2 e)
      have ha0 : (a == 0) = false := by simp; omega
      have hx0 : (x == 0) = false := by simp; omega
      refine wp_region_quiet_below (by kernel_rfl) (by kernel_rfl) ?_
      repeat (go_big_quiet_step (exact ck _ _))
      refine wpQuiet_nil ?_
      intro _ hw'
      obtain ⟨⟨dq, osq⟩, hw''⟩ := hw'
      subst hw''
      go_wp2_with fail
      go_ret
      exact ⟨rfl, hbe2.trans ((below_regrown w2 dq osq).mono hbe2.size)⟩
theorem order_row (A : Option Addr) (len cap : Nat) (zs : List Int) (k i j : Int) (W : World) (h : IsRow .u8 W A len cap zs) (hk : (Lit.int .u8 k).wf = true) (hi : (Lit.int .u8 i).wf = true) (hj : (Lit.int .u8 j).wf = true) :
    Calls Try.prog 4 #[.slice A len cap, .int .u8 k, .int .u8 i, .int .u8 j] W fun e w' => e = .returned (.bool true) ∧ Below W.heap.size W w' := by
  obtain ⟨bs, h1, h2, h3, h4, h5⟩ := row_reads h
  have := bounds_u8 hk
  have := bounds_u8 hi
  have := bounds_u8 hj
  obtain ⟨kn, rfl⟩ : ∃ n : Nat, k = n := ⟨k.toNat, by omega⟩
  obtain ⟨i', rfl⟩ : ∃ n : Nat, i = n := ⟨i.toNat, by omega⟩
  obtain ⟨j', rfl⟩ : ∃ n : Nat, j = n := ⟨j.toNat, by omega⟩
  exact order_walk A cap len bs kn i' j' W h1 h4 h5 (by unfold maxLen at h3; omega) (by omega) (by omega) (by omega)
end Go.Proofs.Ytdkgficmodcolaa
