/- Often: a list of numbers, as choices say; at. -/
import Derived.Test.YtdkgficmodcolaaSizesW
import Derived.Test.YtdkgficmodcolaaBytes
import Derived.Deep.CutBlock
namespace Go.Proofs.Ytdkgficmodcolaa
open Go.RowKit

/-- numbers that are not great -/
def Tame (l : List Int) : Prop := ∀ x ∈ l, 0 ≤ x ∧ x ≤ 1048576
theorem Tame.wf {l : List Int} (h : Tame l) : WfInts l := fun x hx => by have := h x hx; omega
set_option maxRecDepth 100000 in
set_option maxHeartbeats 1600000 in
theorem often_any (A : Option Addr) (cap len : Nat) (cs : List Int) (k : Nat) (W : World) (hcl : cs.length = len) (hcb : AreBytes cs) (hr : Reads W W.heap.size 1 A len (bytesV cs)) (hl : len ≤ 9223372036854775807) (hk : k ≤ 255) :
    Calls Try.prog 7 #[.slice A len cap, .int .u8 k] W fun e w' => ∃ v l, e = .returned v ∧ w'.ownsRow W.heap.size 3 1 v l.length (intV l) ∧ Tame l ∧ l.length ≤ 300 ∧ Below W.heap.size W w' := by
  obtain ⟨r, hr4⟩ : ∃ r, r = k % 4 := ⟨_, rfl⟩
  have er : (k : Int) % 4 = (r : Int) := by omega
  have hr4l : r < 4 := by omega
  have HCB := Lib.hid hcb
  have HCL := Lib.hid hcl
  have HRD := Lib.hid (fun w (h : Below W.heap.size W w) => hr.below h)
  clear hr hcb hcl hr4
  go_enter Try.func7, Try.ntmps7
  go_wp2_with fail
  go_loopw [5, 6, 7, 8, 9, 10] (fun v5 v6 v7 v8 _ _ (w : World) => ∃ (i : Nat) (l : List Int) (x y : Int), i ≤ 300 ∧ i ≤ len ∧ v8 = .int .i64 i ∧ v6 = .int .i64 x ∧ v7 = .int .i64 y ∧ 0 ≤ x ∧ x ≤ 1048576 ∧ 0 ≤ y ∧ y ≤ 1048576 ∧ l.length = i ∧ Tame l ∧ w.ownsRow W.heap.size 3 1 v5 l.length (intV l) ∧ Below W.heap.size W w) (fun _ _ _ v8 _ _ _ => 300 - (intOf v8).toNat)
  case atStart => exact ⟨0, [], 1, 1, by omega, by omega, rfl, rfl, rfl, by omega, by omega, by omega, by omega, rfl, (fun x hx => by cases hx), ⟨rfl, .inl ⟨rfl, rfl⟩⟩, Below.refl _ _⟩
  case round =>
    obtain ⟨i, l, x, y, hi, hil, rfl, rfl, rfl, x0, x1, y0, y1, hll, htm, hown, hbe⟩ := hrel
    have HLL := Lib.hid hll
    have HTM := Lib.hid htm
    rw [hll] at hown
    clear hll htm
    by_cases hlt : i < len
    · by_cases hlt2 : i < 300
      · have hlt3 : (i : Int) < 300 := by omega
        have hrd := HRD.out wr hbe
        obtain ⟨ad, u, rfl, _, hx, hc⟩ := hrd.at_ (k := i) hlt
        obtain ⟨b, hb, rfl⟩ : ∃ b, cs[i]? = some b ∧ u = .int .u8 b := by
          simp only [bytesV, List.getElem?_map, Option.map_eq_some_iff] at hx
          obtain ⟨b, h1, h2⟩ := hx
          exact ⟨b, h1, h2.symm⟩
        obtain ⟨b0, b1⟩ := HCB.out b (List.mem_of_getElem? hb)
        clear hrd hx hb HRD HCL
        rcases (by omega : r = 0 ∨ r = 1 ∨ r = 2 ∨ r = 3) with rfl | rfl | rfl | rfl
        · obtain ⟨w3, hw3⟩ : ∃ w3, w3 = wr.alloc (.cells #[.int .i64 (b)] 3) := ⟨_, rfl⟩
          have hb3 : Below wr.heap.size wr w3 := by rw [hw3]; exact (Below.refl _ _).alloc (Nat.le_refl _) _
          have hn3 : Blk w3 wr.heap.size 3 #[.int .i64 (b)] := by rw [hw3]; exact Blk.new wr 3 _
          have hown3 := own_below hown hb3 (Nat.le_refl _)
          have hbe3 := hbe.trans (hb3.mono hbe.size)
          have hsz3 := hbe3.size
          have HW3 := Lib.hid hw3
          clear hw3 hb3 hown hbe
          go_wp2_with (change wpList _ _ _ _ _ (wr.alloc (.cells #[.int .i64 (b)] 3)); rw [← HW3.out]; refine append_one info3 rfl Try.underlying23 rfl (.tmp 55) (.tmp 57) rfl W.heap.size u5 i (intV l) rfl hown3 wr.heap.size rfl hn3 rfl (by omega) (by omega) hsz3 ?_; intro v4 w4 hown4 hg4)
          have hbe4 := hbe3.grown hg4 hbe3.size (fun k e => own_ge hown3 k e)
          go_roundw
          case rel => exact ⟨i + 1, l ++ [b], x, y, by omega, by omega, by go_num, by go_num, by go_num, by omega, by omega, by omega, by omega, by simp [HLL.out], (fun u hu => by
            rcases List.mem_append.1 hu with h | h
            · exact HTM.out u h
            · rw [List.mem_singleton.1 h]; omega), by rw [List.length_append, HLL.out]; simpa [intV] using hown4, hbe4⟩
          case measure => simp [intOf]; omega
        · obtain ⟨w3, hw3⟩ : ∃ w3, w3 = wr.alloc (.cells #[.int .i64 (x)] 3) := ⟨_, rfl⟩
          have hb3 : Below wr.heap.size wr w3 := by rw [hw3]; exact (Below.refl _ _).alloc (Nat.le_refl _) _
          have hn3 : Blk w3 wr.heap.size 3 #[.int .i64 (x)] := by rw [hw3]; exact Blk.new wr 3 _
          have hown3 := own_below hown hb3 (Nat.le_refl _)
          have hbe3 := hbe.trans (hb3.mono hbe.size)
          have hsz3 := hbe3.size
          have HW3 := Lib.hid hw3
          clear hw3 hb3 hown hbe
          go_wp2_with (change wpList _ _ _ _ _ (wr.alloc (.cells #[.int .i64 (x)] 3)); rw [← HW3.out]; refine append_one info3 rfl Try.underlying23 rfl (.tmp 55) (.tmp 57) rfl W.heap.size u5 i (intV l) rfl hown3 wr.heap.size rfl hn3 rfl (by omega) (by omega) hsz3 ?_; intro v4 w4 hown4 hg4)
          have hbe4 := hbe3.grown hg4 hbe3.size (fun k e => own_ge hown3 k e)
          go_roundw
          case rel => exact ⟨i + 1, l ++ [x], y, min (x + y) 1048576, by omega, by omega, by go_num, by go_num, by go_num, by omega, by omega, by omega, by omega, by simp [HLL.out], (fun u hu => by
            rcases List.mem_append.1 hu with h | h
            · exact HTM.out u h
            · rw [List.mem_singleton.1 h]; omega), by rw [List.length_append, HLL.out]; simpa [intV] using hown4, hbe4⟩
          case measure => simp [intOf]; omega
        · obtain ⟨m, hm⟩ : ∃ m, m = b % 4 := ⟨_, rfl⟩
          have em : b % 4 = m := hm.symm
          have m0 : 0 ≤ m ∧ m < 4 := by omega
          obtain ⟨m0, m1⟩ := m0
          clear hm
          obtain ⟨w3, hw3⟩ : ∃ w3, w3 = wr.alloc (.cells #[.int .i64 (m)] 3) := ⟨_, rfl⟩
          have hb3 : Below wr.heap.size wr w3 := by rw [hw3]; exact (Below.refl _ _).alloc (Nat.le_refl _) _
          have hn3 : Blk w3 wr.heap.size 3 #[.int .i64 (m)] := by rw [hw3]; exact Blk.new wr 3 _
          have hown3 := own_below hown hb3 (Nat.le_refl _)
          have hbe3 := hbe.trans (hb3.mono hbe.size)
          have hsz3 := hbe3.size
          have HW3 := Lib.hid hw3
          clear hw3 hb3 hown hbe
          go_wp2_with (change wpList _ _ _ _ _ (wr.alloc (.cells #[.int .i64 (m)] 3)); rw [← HW3.out]; refine append_one info3 rfl Try.underlying23 rfl (.tmp 55) (.tmp 57) rfl W.heap.size u5 i (intV l) rfl hown3 wr.heap.size rfl hn3 rfl (by omega) (by omega) hsz3 ?_; intro v4 w4 hown4 hg4)
          have hbe4 := hbe3.grown hg4 hbe3.size (fun k e => own_ge hown3 k e)
          go_roundw
          case rel => exact ⟨i + 1, l ++ [m], x, y, by omega, by omega, by go_num, by go_num, by go_num, by omega, by omega, by omega, by omega, by simp [HLL.out], (fun u hu => by
            rcases List.mem_append.1 hu with h | h
            · exact HTM.out u h
            · rw [List.mem_singleton.1 h]; omega), by rw [List.length_append, HLL.out]; simpa [intV] using hown4, hbe4⟩
          case measure => simp [intOf]; omega
        · by_cases h60 : 60 < b
          · obtain ⟨w3, hw3⟩ : ∃ w3, w3 = wr.alloc (.cells #[.int .i64 (0)] 3) := ⟨_, rfl⟩
            have hb3 : Below wr.heap.size wr w3 := by rw [hw3]; exact (Below.refl _ _).alloc (Nat.le_refl _) _
            have hn3 : Blk w3 wr.heap.size 3 #[.int .i64 (0)] := by rw [hw3]; exact Blk.new wr 3 _
            have hown3 := own_below hown hb3 (Nat.le_refl _)
            have hbe3 := hbe.trans (hb3.mono hbe.size)
            have hsz3 := hbe3.size
            have HW3 := Lib.hid hw3
            clear hw3 hb3 hown hbe
            go_wp2_with (change wpList _ _ _ _ _ (wr.alloc (.cells #[.int .i64 (0)] 3)); rw [← HW3.out]; refine append_one info3 rfl Try.underlying23 rfl (.tmp 55) (.tmp 57) rfl W.heap.size u5 i (intV l) rfl hown3 wr.heap.size rfl hn3 rfl (by omega) (by omega) hsz3 ?_; intro v4 w4 hown4 hg4)
            have hbe4 := hbe3.grown hg4 hbe3.size (fun k e => own_ge hown3 k e)
            go_roundw
            case rel => exact ⟨i + 1, l ++ [0], x, y, by omega, by omega, by go_num, by go_num, by go_num, by omega, by omega, by omega, by omega, by simp [HLL.out], (fun u hu => by
              rcases List.mem_append.1 hu with h | h
              · exact HTM.out u h
              · rw [List.mem_singleton.1 h]; omega), by rw [List.length_append, HLL.out]; simpa [intV] using hown4, hbe4⟩
            case measure => simp [intOf]; omega
          · obtain ⟨w3, hw3⟩ : ∃ w3, w3 = wr.alloc (.cells #[.int .i64 (b)] 3) := ⟨_, rfl⟩
            have hb3 : Below wr.heap.size wr w3 := by rw [hw3]; exact (Below.refl _ _).alloc (Nat.le_refl _) _
            have hn3 : Blk w3 wr.heap.size 3 #[.int .i64 (b)] := by rw [hw3]; exact Blk.new wr 3 _
            have hown3 := own_below hown hb3 (Nat.le_refl _)
            have hbe3 := hbe.trans (hb3.mono hbe.size)
            have hsz3 := hbe3.size
            have HW3 := Lib.hid hw3
            clear hw3 hb3 hown hbe
            go_wp2_with (change wpList _ _ _ _ _ (wr.alloc (.cells #[.int .i64 (b)] 3)); rw [← HW3.out]; refine append_one info3 rfl Try.underlying23 rfl (.tmp 55) (.tmp 57) rfl W.heap.size u5 i (intV l) rfl hown3 wr.heap.size rfl hn3 rfl (by omega) (by omega) hsz3 ?_; intro v4 w4 hown4 hg4)
            have hbe4 := hbe3.grown hg4 hbe3.size (fun k e => own_ge hown3 k e)
            go_roundw
            case rel => exact ⟨i + 1, l ++ [b], x, y, by omega, by omega, by go_num, by go_num, by go_num, by omega, by omega, by omega, by omega, by simp [HLL.out], (fun u hu => by
              rcases List.mem_append.1 hu with h | h
              · exact HTM.out u h
              · rw [List.mem_singleton.1 h]; omega), by rw [List.length_append, HLL.out]; simpa [intV] using hown4, hbe4⟩
            case measure => simp [intOf]; omega
      · have hlt3 : ¬ (i : Int) < 300 := by omega
        have htm := HTM.out
        have hll := HLL.out
        go_wp2_with fail
        go_ret
        exact ⟨u5, rfl, l, by rw [hll]; exact hown, htm, by omega, hbe⟩
    · have hlt2 : ¬ (i : Int) < (len : Int) := by omega
      have htm := HTM.out
      have hll := HLL.out
      go_wp2_with fail
      go_ret
      exact ⟨u5, rfl, l, by rw [hll]; exact hown, htm, by omega, hbe⟩
theorem at_any (A : Option Addr) (cap len : Nat) (l : List Int) (i : Nat) (W : World) (hlen : l.length = len) (hw : WfInts l) (hr : Reads W W.heap.size 1 A len (l.map (Value.int .i64))) (_ : len ≤ 9223372036854775807) (_ : i ≤ 1000) :
    Calls Try.prog 10 #[.slice A len cap, .int .i64 i] W fun e w' => e = .returned (.int .i64 (l.getD i 0)) ∧ W = w' := by
  by_cases hlt : i < len
  · obtain ⟨ad, u, rfl, _, hx, hc⟩ := hr.at_ (k := i) hlt
    obtain ⟨x, hx1, rfl⟩ := intV_at (l := l) hx
    have e : l.getD i 0 = x := by rw [List.getD_eq_getElem?_getD, hx1]; rfl
    have hb := hw x (List.mem_of_getElem? hx1)
    rw [e]
    clear hr hx hx1 e hlen hw
    go_enter Try.func10, Try.ntmps10
    go_wp2_with fail
    go_ret
    exact ⟨rfl, rfl⟩
  · have e : l.getD i 0 = 0 := by rw [List.getD_eq_getElem?_getD, List.getElem?_eq_none (by omega)]; rfl
    rw [e]
    clear hr e hlen hw
    go_enter Try.func10, Try.ntmps10
    go_wp2_with fail
    go_ret
    exact ⟨rfl, rfl⟩
end Go.Proofs.Ytdkgficmodcolaa
