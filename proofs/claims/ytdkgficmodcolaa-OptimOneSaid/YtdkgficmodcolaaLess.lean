/- Less of the waiting trees; Swap; Len. -/
import Derived.Test.YtdkgficmodcolaaMeth
import Derived.Test.YtdkgficmodcolaaDrawn
namespace Go.Proofs.Ytdkgficmodcolaa
open Go.RowKit

theorem idx60 (ad : Addr) (len c i : Nat) (hi : i < len) (w : World) : (Instr.indexAt 60 (.slice (some ad) len c) (.int .i64 i)).run Try.prog w = .ok (.pointer (some (ad.add i))) w := by
  have h1 : (Try.prog.info? 56).map (·.size) = some 1 := by kernel_rfl
  obtain ⟨ii, hi1, hsz⟩ := Option.map_eq_some_iff.1 h1
  have hn : 0 ≤ (i : Int) ∧ (i : Int) < len := by omega
  simp [Instr.indexAt, run_underlying Try.underlying60, asIntOf, hn, sizeOf, typeInfo, hi1, hsz, Result.andThen, go_sem]
  exact fun h => absurd h (by omega)
theorem yieldsIf_index60 {ops : Array Oper} {S : World → Prop} {op : Oper} {a : Act} (hw : Region.wanted op (yielded ops a.tmps) = true) (x ix : Operand) (ho : op.op = .indexAddr 60 x ix) (g len c i : Nat) (hi : i < len)
    (hx : a.eval x = .slice (some ⟨g, 0, none⟩) len c) (hix : a.eval ix = .int .i64 i) : YieldsIf Try.prog ops S op (.pointer (some ⟨g, i, none⟩)) a :=
  .inl ⟨hw, fun w _ => by
    unfold execOp
    simp only [ho, hx, hix, Sem.run_bind, idx60 ⟨g, 0, none⟩ len c i hi, Result.andThen_ok, Sem.run_pure, Addr.add_mid, Nat.zero_add]⟩
/-- a tree's key: its number, its weight -/
def lessK (a b : Int × Int) : Bool := decide (a.2 < b.2) || (decide (a.2 = b.2) && decide (b.1 < a.1))
theorem lessK_cmp (a b : Int × Int) : decide ((if cmpS a.2 b.2 = 0 then cmpS b.1 a.1 else cmpS a.2 b.2) < 0) = lessK a b := by
  unfold cmpS lessK
  rcases Int.lt_trichotomy a.2 b.2 with h | h | h
  · simp [h]
  · simp [h]
    rcases Int.lt_trichotomy b.1 a.1 with h1 | h1 | h1
    · simp [h1]
    · simp [h1]
    · rw [if_neg (by omega), if_pos h1]; simp; omega
  · rw [if_neg (by omega : ¬ a.2 < b.2), if_pos h]; simp; omega
structure KeyAt (w : World) (g : Nat) (k : Int × Int) : Prop where
  at_ : ∃ v, Blk w g 58 #[.int .i64 k.1, .int .i64 k.2, v]
  n0 : 0 ≤ k.1 ∧ k.1 ≤ 256
  w0 : 0 ≤ k.2 ∧ k.2 ≤ 1073741824
theorem KeyAt.num {w : World} {g : Nat} {k : Int × Int} (h : KeyAt w g k) : w.cell? ⟨g, 0, none⟩ = some (.int .i64 k.1) := by
  obtain ⟨v, hv⟩ := h.at_
  rw [hv.cell]; rfl
theorem KeyAt.wt {w : World} {g : Nat} {k : Int × Int} (h : KeyAt w g k) : w.cell? ⟨g, 1, none⟩ = some (.int .i64 k.2) := by
  obtain ⟨v, hv⟩ := h.at_
  rw [hv.cell]; rfl
theorem KeyAt.below {w w' : World} {g : Nat} {k : Int × Int} (h : KeyAt w g k) (hb : Below w.heap.size w w') : KeyAt w' g k := by
  obtain ⟨v, hv⟩ := h.at_
  exact ⟨⟨v, hv.below hb hv.lt⟩, h.n0, h.w0⟩

set_option maxRecDepth 100000 in
set_option maxHeartbeats 4000000 in
theorem less_any (gs n c i j gi gj : Nat) (ki kj : Int × Int) (W : World) (hi : i < n) (hj : j < n) (hci : W.cell? ⟨gs, i, none⟩ = some (.pointer (some ⟨gi, 0, none⟩))) (hcj : W.cell? ⟨gs, j, none⟩ = some (.pointer (some ⟨gj, 0, none⟩)))
    (hki : KeyAt W gi ki) (hkj : KeyAt W gj kj) :
    Calls Try.prog 51 #[.slice (some ⟨gs, 0, none⟩) n c, .int .i64 i, .int .i64 j] W fun e w' => e = .returned (.bool (lessK ki kj)) ∧ Below W.heap.size W w' := by
  rw [← lessK_cmp]
  obtain ⟨ni, wi⟩ := ki
  obtain ⟨nj, wj⟩ := kj
  have b1 := hki.n0
  have b2 := hki.w0
  have b3 := hkj.n0
  have b4 := hkj.w0
  have c1 := hki.num
  have c2 := hki.wt
  have c3 := hkj.num
  have c4 := hkj.wt
  simp only at b1 b2 b3 b4 c1 c2 c3 c4
  simp only
  obtain ⟨x, hx⟩ : ∃ x, x = cmpS wi wj := ⟨_, rfl⟩
  obtain ⟨y, hy⟩ : ∃ y, y = cmpS nj ni := ⟨_, rfl⟩
  rw [← hx, ← hy]
  obtain ⟨z, hz⟩ : ∃ z, z = if x = 0 then y else x := ⟨_, rfl⟩
  rw [← hz]
  have KX := Lib.hid (fun w => compare_any wi wj w (by omega) (by omega) (by omega) (by omega))
  have KY := Lib.hid (fun w => compare_any nj ni w (by omega) (by omega) (by omega) (by omega))
  rw [← hx] at KX
  rw [← hy] at KY
  have HZ := Lib.hid hz
  clear hki hkj hx hy hz
  go_enter Try.func51, Try.ntmps51
  go_wp2_with fail
  rename_i K hK
  refine wp_region_noPanic ?_
  refine wp_region_held (S := fun w => w.cell? ⟨gs, i, none⟩ = some (.pointer (some ⟨gi, 0, none⟩)) ∧ w.cell? ⟨gs, j, none⟩ = some (.pointer (some ⟨gj, 0, none⟩)) ∧ w.cell? ⟨gi, 0, none⟩ = some (.int .i64 ni) ∧ w.cell? ⟨gi, 1, none⟩ = some (.int .i64 wi) ∧ w.cell? ⟨gj, 0, none⟩ = some (.int .i64 nj) ∧ w.cell? ⟨gj, 1, none⟩ = some (.int .i64 wj)) (by kernel_rfl) ?_
  show wpAnyH _ _ _ _ _ _ _ _ W.drew
  have hS : W.drew.cell? ⟨gs, i, none⟩ = some (.pointer (some ⟨gi, 0, none⟩)) ∧ W.drew.cell? ⟨gs, j, none⟩ = some (.pointer (some ⟨gj, 0, none⟩)) ∧ W.drew.cell? ⟨gi, 0, none⟩ = some (.int .i64 ni) ∧ W.drew.cell? ⟨gi, 1, none⟩ = some (.int .i64 wi) ∧ W.drew.cell? ⟨gj, 0, none⟩ = some (.int .i64 nj) ∧ W.drew.cell? ⟨gj, 1, none⟩ = some (.int .i64 wj) := ⟨hci, hcj, c1, c2, c3, c4⟩
  have hbe : Below W.heap.size W W.drew := (Below.refl _ _).drew
  refine wpAnyH_take (i := 0) (oi := ⟨some 7, _, _, _, _, _⟩) (v := .slice (some ⟨gs, 0, none⟩) n c) rfl (by kernel_rfl) (by kernel_rfl) (by kernel_rfl) (fun c a w h => h) (Or.inl ⟨by rfl, fun w _ => by kernel_rfl⟩) hS ?_
  try simp only [Act.put, List.setIfInBounds_toArray, List.set_cons_zero, List.set_cons_succ]
  refine wpAnyH_take (i := 1) (oi := ⟨some 8, _, _, _, _, _⟩) (v := .int .i64 i) rfl (by kernel_rfl) (by kernel_rfl) (by kernel_rfl) (fun c a w h => h) (Or.inl ⟨by rfl, fun w _ => by kernel_rfl⟩) hS ?_
  try simp only [Act.put, List.setIfInBounds_toArray, List.set_cons_zero, List.set_cons_succ]
  refine wpAnyH_take (i := 2) (oi := ⟨some 9, _, _, _, _, _⟩) (v := .pointer (some ⟨gs, i, none⟩)) rfl (by kernel_rfl) (by kernel_rfl) (by kernel_rfl) (fun c a w h => h) (yieldsIf_index60 (by rfl) (.tmp 7) (.tmp 8) rfl gs n c i hi rfl rfl) hS ?_
  try simp only [Act.put, List.setIfInBounds_toArray, List.set_cons_zero, List.set_cons_succ]
  refine wpAnyH_take (i := 3) (oi := ⟨some 10, _, _, _, _, _⟩) (v := .pointer (some ⟨gi, 0, none⟩)) rfl (by kernel_rfl) (by kernel_rfl) (by kernel_rfl) (fun c a w h => h) (yieldsIf_load_cell (by rfl) 56 (.tmp 9) rfl ⟨gs, i, none⟩ rfl _ _ (fun w h => h.1) Try.underlying56 rfl) hS ?_
  try simp only [Act.put, List.setIfInBounds_toArray, List.set_cons_zero, List.set_cons_succ]
  refine wpAnyH_take (i := 4) (oi := ⟨some 11, _, _, _, _, _⟩) (v := .pointer (some ⟨gi, 0, none⟩)) rfl (by kernel_rfl) (by kernel_rfl) (by kernel_rfl) (fun c a w h => h) (Or.inl ⟨by rfl, fun w _ => by kernel_rfl⟩) hS ?_
  try simp only [Act.put, List.setIfInBounds_toArray, List.set_cons_zero, List.set_cons_succ]
  refine wpAnyH_take (i := 5) (oi := ⟨some 12, _, _, _, _, _⟩) (v := .pointer (some ⟨gi, 1, none⟩)) rfl (by kernel_rfl) (by kernel_rfl) (by kernel_rfl) (fun c a w h => h) (Or.inl ⟨by rfl, fun w _ => by kernel_rfl⟩) hS ?_
  try simp only [Act.put, List.setIfInBounds_toArray, List.set_cons_zero, List.set_cons_succ]
  refine wpAnyH_take (i := 6) (oi := ⟨some 13, _, _, _, _, _⟩) (v := .int .i64 wi) rfl (by kernel_rfl) (by kernel_rfl) (by kernel_rfl) (fun c a w h => h) (yieldsIf_load_cell (by rfl) 3 (.tmp 12) rfl ⟨gi, 1, none⟩ rfl _ _ (fun w h => h.2.2.2.1) Try.underlying3 rfl) hS ?_
  try simp only [Act.put, List.setIfInBounds_toArray, List.set_cons_zero, List.set_cons_succ]
  refine wpAnyH_take (i := 7) (oi := ⟨some 14, _, _, _, _, _⟩) (v := .slice (some ⟨gs, 0, none⟩) n c) rfl (by kernel_rfl) (by kernel_rfl) (by kernel_rfl) (fun c a w h => h) (Or.inl ⟨by rfl, fun w _ => by kernel_rfl⟩) hS ?_
  try simp only [Act.put, List.setIfInBounds_toArray, List.set_cons_zero, List.set_cons_succ]
  refine wpAnyH_take (i := 8) (oi := ⟨some 15, _, _, _, _, _⟩) (v := .int .i64 j) rfl (by kernel_rfl) (by kernel_rfl) (by kernel_rfl) (fun c a w h => h) (Or.inl ⟨by rfl, fun w _ => by kernel_rfl⟩) hS ?_
  try simp only [Act.put, List.setIfInBounds_toArray, List.set_cons_zero, List.set_cons_succ]
  refine wpAnyH_take (i := 9) (oi := ⟨some 16, _, _, _, _, _⟩) (v := .pointer (some ⟨gs, j, none⟩)) rfl (by kernel_rfl) (by kernel_rfl) (by kernel_rfl) (fun c a w h => h) (yieldsIf_index60 (by rfl) (.tmp 14) (.tmp 15) rfl gs n c j hj rfl rfl) hS ?_
  try simp only [Act.put, List.setIfInBounds_toArray, List.set_cons_zero, List.set_cons_succ]
  refine wpAnyH_take (i := 10) (oi := ⟨some 17, _, _, _, _, _⟩) (v := .pointer (some ⟨gj, 0, none⟩)) rfl (by kernel_rfl) (by kernel_rfl) (by kernel_rfl) (fun c a w h => h) (yieldsIf_load_cell (by rfl) 56 (.tmp 16) rfl ⟨gs, j, none⟩ rfl _ _ (fun w h => h.2.1) Try.underlying56 rfl) hS ?_
  try simp only [Act.put, List.setIfInBounds_toArray, List.set_cons_zero, List.set_cons_succ]
  refine wpAnyH_take (i := 11) (oi := ⟨some 18, _, _, _, _, _⟩) (v := .pointer (some ⟨gj, 0, none⟩)) rfl (by kernel_rfl) (by kernel_rfl) (by kernel_rfl) (fun c a w h => h) (Or.inl ⟨by rfl, fun w _ => by kernel_rfl⟩) hS ?_
  try simp only [Act.put, List.setIfInBounds_toArray, List.set_cons_zero, List.set_cons_succ]
  refine wpAnyH_take (i := 12) (oi := ⟨some 19, _, _, _, _, _⟩) (v := .pointer (some ⟨gj, 1, none⟩)) rfl (by kernel_rfl) (by kernel_rfl) (by kernel_rfl) (fun c a w h => h) (Or.inl ⟨by rfl, fun w _ => by kernel_rfl⟩) hS ?_
  try simp only [Act.put, List.setIfInBounds_toArray, List.set_cons_zero, List.set_cons_succ]
  refine wpAnyH_take (i := 13) (oi := ⟨some 20, _, _, _, _, _⟩) (v := .int .i64 wj) rfl (by kernel_rfl) (by kernel_rfl) (by kernel_rfl) (fun c a w h => h) (yieldsIf_load_cell (by rfl) 3 (.tmp 19) rfl ⟨gj, 1, none⟩ rfl _ _ (fun w h => h.2.2.2.2.2) Try.underlying3 rfl) hS ?_
  try simp only [Act.put, List.setIfInBounds_toArray, List.set_cons_zero, List.set_cons_succ]
  refine wpAnyH_take (i := 15) (oi := ⟨some 22, _, _, _, _, _⟩) (v := .slice (some ⟨gs, 0, none⟩) n c) rfl (by kernel_rfl) (by kernel_rfl) (by kernel_rfl) (fun c a w h => h) (Or.inl ⟨by rfl, fun w _ => by kernel_rfl⟩) hS ?_
  try simp only [Act.put, List.setIfInBounds_toArray, List.set_cons_zero, List.set_cons_succ]
  refine wpAnyH_take (i := 16) (oi := ⟨some 23, _, _, _, _, _⟩) (v := .int .i64 j) rfl (by kernel_rfl) (by kernel_rfl) (by kernel_rfl) (fun c a w h => h) (Or.inl ⟨by rfl, fun w _ => by kernel_rfl⟩) hS ?_
  try simp only [Act.put, List.setIfInBounds_toArray, List.set_cons_zero, List.set_cons_succ]
  refine wpAnyH_take (i := 17) (oi := ⟨some 24, _, _, _, _, _⟩) (v := .pointer (some ⟨gs, j, none⟩)) rfl (by kernel_rfl) (by kernel_rfl) (by kernel_rfl) (fun c a w h => h) (yieldsIf_index60 (by rfl) (.tmp 22) (.tmp 23) rfl gs n c j hj rfl rfl) hS ?_
  try simp only [Act.put, List.setIfInBounds_toArray, List.set_cons_zero, List.set_cons_succ]
  refine wpAnyH_take (i := 18) (oi := ⟨some 25, _, _, _, _, _⟩) (v := .pointer (some ⟨gj, 0, none⟩)) rfl (by kernel_rfl) (by kernel_rfl) (by kernel_rfl) (fun c a w h => h) (yieldsIf_load_cell (by rfl) 56 (.tmp 24) rfl ⟨gs, j, none⟩ rfl _ _ (fun w h => h.2.1) Try.underlying56 rfl) hS ?_
  try simp only [Act.put, List.setIfInBounds_toArray, List.set_cons_zero, List.set_cons_succ]
  refine wpAnyH_take (i := 19) (oi := ⟨some 26, _, _, _, _, _⟩) (v := .pointer (some ⟨gj, 0, none⟩)) rfl (by kernel_rfl) (by kernel_rfl) (by kernel_rfl) (fun c a w h => h) (Or.inl ⟨by rfl, fun w _ => by kernel_rfl⟩) hS ?_
  try simp only [Act.put, List.setIfInBounds_toArray, List.set_cons_zero, List.set_cons_succ]
  refine wpAnyH_take (i := 20) (oi := ⟨some 27, _, _, _, _, _⟩) (v := .pointer (some ⟨gj, 0, none⟩)) rfl (by kernel_rfl) (by kernel_rfl) (by kernel_rfl) (fun c a w h => h) (Or.inl ⟨by rfl, fun w _ => by kernel_rfl⟩) hS ?_
  try simp only [Act.put, List.setIfInBounds_toArray, List.set_cons_zero, List.set_cons_succ]
  refine wpAnyH_take (i := 21) (oi := ⟨some 28, _, _, _, _, _⟩) (v := .int .i64 nj) rfl (by kernel_rfl) (by kernel_rfl) (by kernel_rfl) (fun c a w h => h) (yieldsIf_load_cell (by rfl) 3 (.tmp 27) rfl ⟨gj, 0, none⟩ rfl _ _ (fun w h => h.2.2.2.2.1) Try.underlying3 rfl) hS ?_
  try simp only [Act.put, List.setIfInBounds_toArray, List.set_cons_zero, List.set_cons_succ]
  refine wpAnyH_take (i := 22) (oi := ⟨some 29, _, _, _, _, _⟩) (v := .slice (some ⟨gs, 0, none⟩) n c) rfl (by kernel_rfl) (by kernel_rfl) (by kernel_rfl) (fun c a w h => h) (Or.inl ⟨by rfl, fun w _ => by kernel_rfl⟩) hS ?_
  try simp only [Act.put, List.setIfInBounds_toArray, List.set_cons_zero, List.set_cons_succ]
  refine wpAnyH_take (i := 23) (oi := ⟨some 30, _, _, _, _, _⟩) (v := .int .i64 i) rfl (by kernel_rfl) (by kernel_rfl) (by kernel_rfl) (fun c a w h => h) (Or.inl ⟨by rfl, fun w _ => by kernel_rfl⟩) hS ?_
  try simp only [Act.put, List.setIfInBounds_toArray, List.set_cons_zero, List.set_cons_succ]
  refine wpAnyH_take (i := 24) (oi := ⟨some 31, _, _, _, _, _⟩) (v := .pointer (some ⟨gs, i, none⟩)) rfl (by kernel_rfl) (by kernel_rfl) (by kernel_rfl) (fun c a w h => h) (yieldsIf_index60 (by rfl) (.tmp 29) (.tmp 30) rfl gs n c i hi rfl rfl) hS ?_
  try simp only [Act.put, List.setIfInBounds_toArray, List.set_cons_zero, List.set_cons_succ]
  refine wpAnyH_take (i := 25) (oi := ⟨some 32, _, _, _, _, _⟩) (v := .pointer (some ⟨gi, 0, none⟩)) rfl (by kernel_rfl) (by kernel_rfl) (by kernel_rfl) (fun c a w h => h) (yieldsIf_load_cell (by rfl) 56 (.tmp 31) rfl ⟨gs, i, none⟩ rfl _ _ (fun w h => h.1) Try.underlying56 rfl) hS ?_
  try simp only [Act.put, List.setIfInBounds_toArray, List.set_cons_zero, List.set_cons_succ]
  refine wpAnyH_take (i := 26) (oi := ⟨some 33, _, _, _, _, _⟩) (v := .pointer (some ⟨gi, 0, none⟩)) rfl (by kernel_rfl) (by kernel_rfl) (by kernel_rfl) (fun c a w h => h) (Or.inl ⟨by rfl, fun w _ => by kernel_rfl⟩) hS ?_
  try simp only [Act.put, List.setIfInBounds_toArray, List.set_cons_zero, List.set_cons_succ]
  refine wpAnyH_take (i := 27) (oi := ⟨some 34, _, _, _, _, _⟩) (v := .pointer (some ⟨gi, 0, none⟩)) rfl (by kernel_rfl) (by kernel_rfl) (by kernel_rfl) (fun c a w h => h) (Or.inl ⟨by rfl, fun w _ => by kernel_rfl⟩) hS ?_
  try simp only [Act.put, List.setIfInBounds_toArray, List.set_cons_zero, List.set_cons_succ]
  refine wpAnyH_take (i := 28) (oi := ⟨some 35, _, _, _, _, _⟩) (v := .int .i64 ni) rfl (by kernel_rfl) (by kernel_rfl) (by kernel_rfl) (fun c a w h => h) (yieldsIf_load_cell (by rfl) 3 (.tmp 34) rfl ⟨gi, 0, none⟩ rfl _ _ (fun w h => h.2.2.1) Try.underlying3 rfl) hS ?_
  try simp only [Act.put, List.setIfInBounds_toArray, List.set_cons_zero, List.set_cons_succ]
  refine wpAnyH_ready (rs := [14]) (by kernel_rfl) (by simp) ?_
  refine AllReadyH.cons rfl (fun K' hK' => ?_) AllReadyH.nil
  go_simp
  refine (KX.out _).mono ?_
  rintro e w1 ⟨rfl, rfl⟩
  refine hK'.out _ _ hS (fun hS5 => ?_)
  clear hK' K' hS5
  try simp only [Act.put, List.setIfInBounds_toArray, List.set_cons_zero, List.set_cons_succ]
  refine wpAnyH_ready (rs := [29]) (by kernel_rfl) (by simp) ?_
  refine AllReadyH.cons rfl (fun K' hK' => ?_) AllReadyH.nil
  go_simp
  refine (KY.out _).mono ?_
  rintro e w1 ⟨rfl, rfl⟩
  refine hK'.out _ _ hS (fun hS5 => ?_)
  clear hK' K' hS5
  try simp only [Act.put, List.setIfInBounds_toArray, List.set_cons_zero, List.set_cons_succ]
  have hn := Blk.new W.drew 3 #[.int .i64 x, .int .i64 y]
  have hb2 : Below W.drew.heap.size W.drew (W.drew.alloc (.cells #[.int .i64 x, .int .i64 y] 3)) := (Below.refl _ _).alloc (Nat.le_refl _) _
  have hS2 : (W.drew.alloc (.cells #[.int .i64 x, .int .i64 y] 3)).cell? ⟨gs, i, none⟩ = some (.pointer (some ⟨gi, 0, none⟩)) ∧ (W.drew.alloc (.cells #[.int .i64 x, .int .i64 y] 3)).cell? ⟨gs, j, none⟩ = some (.pointer (some ⟨gj, 0, none⟩)) ∧ (W.drew.alloc (.cells #[.int .i64 x, .int .i64 y] 3)).cell? ⟨gi, 0, none⟩ = some (.int .i64 ni) ∧ (W.drew.alloc (.cells #[.int .i64 x, .int .i64 y] 3)).cell? ⟨gi, 1, none⟩ = some (.int .i64 wi) ∧ (W.drew.alloc (.cells #[.int .i64 x, .int .i64 y] 3)).cell? ⟨gj, 0, none⟩ = some (.int .i64 nj) ∧ (W.drew.alloc (.cells #[.int .i64 x, .int .i64 y] 3)).cell? ⟨gj, 1, none⟩ = some (.int .i64 wj) := by
    obtain ⟨s1, s2, s3, s4, s5, s6⟩ := hS
    exact ⟨(hb2.cell (World.block_lt_of_cell? _ _ s1)).trans s1, (hb2.cell (World.block_lt_of_cell? _ _ s2)).trans s2, (hb2.cell (World.block_lt_of_cell? _ _ s3)).trans s3, (hb2.cell (World.block_lt_of_cell? _ _ s4)).trans s4, (hb2.cell (World.block_lt_of_cell? _ _ s5)).trans s5, (hb2.cell (World.block_lt_of_cell? _ _ s6)).trans s6⟩
  have hbe2 := hbe.trans (hb2.mono hbe.size)
  refine wpAnyH_ready (rs := [30]) (by kernel_rfl) (by simp) ?_
  refine AllReadyH.cons rfl (fun K' hK' => ?_) AllReadyH.nil
  rw [if_pos (by rfl)]
  refine wp_bslice (o := ⟨some 37, _, _, _, _, _⟩) 23 3 2 _ rfl Try.underlying23 #[.int .i64 x, .int .i64 y] (by kernel_rfl) ?_
  generalize W.drew.alloc (.cells #[.int .i64 x, .int .i64 y] 3) = w2 at *
  refine hK'.out _ _ hS2 (fun hS5 => ?_)
  clear hK' K' hS5
  try simp only [Act.put, List.setIfInBounds_toArray, List.set_cons_zero, List.set_cons_succ]
  refine wpAnyH_ready (rs := [31]) (by kernel_rfl) (by simp) ?_
  refine AllReadyH.cons rfl (fun K' hK' => ?_) AllReadyH.nil
  go_simp
  have hor := or2_any x y _ _ hn
  rw [← HZ.out] at hor
  refine hor.mono ?_
  clear hor
  rintro e w3 ⟨rfl, rfl⟩
  refine hK'.out _ _ hS2 (fun hS5 => ?_)
  clear hK' K' hS5
  try simp only [Act.put, List.setIfInBounds_toArray, List.set_cons_zero, List.set_cons_succ]
  refine wpAnyH_take (i := 32) (oi := ⟨some 39, _, _, _, _, _⟩) (v := .bool (decide (z < 0))) rfl (by kernel_rfl) (by kernel_rfl) (by kernel_rfl) (fun c a w h => h) (Or.inl ⟨by rfl, fun w _ => by kernel_rfl⟩) hS2 ?_
  try simp only [Act.put, List.setIfInBounds_toArray, List.set_cons_zero, List.set_cons_succ]
  refine wpAnyH_take (i := 33) (oi := ⟨some 6, _, _, _, _, _⟩) (v := .bool (decide (z < 0))) rfl (by kernel_rfl) (by kernel_rfl) (by kernel_rfl) (fun c a w h => h) (Or.inl ⟨by rfl, fun w _ => by kernel_rfl⟩) hS2 ?_
  try simp only [Act.put, List.setIfInBounds_toArray, List.set_cons_zero, List.set_cons_succ]
  refine wpAnyH_done (by kernel_rfl) ?_ _
  refine hK _ _ ?_
  clear hK K
  go_wp2_with fail
  go_ret
  exact ⟨rfl, hbe2⟩
end Go.Proofs.Ytdkgficmodcolaa
