/- law12.Row: some bytes. -/
import Derived.Test.YtbjcjddaaegheaaRPack
namespace Go.Proofs.Ytbjcjddaaegheaa
open Go.RowKit

def BytesBack (W : World) (e : Ending) (w' : World) : Prop := ∃ v bs, e = .returned v ∧ AreBytes bs ∧ bs.length ≤ 1000000 ∧ w'.ownsRow W.heap.size 5 1 v bs.length (bytesV bs) ∧ Below W.heap.size W w'

set_option maxRecDepth 100000 in
set_option maxHeartbeats 1000000 in
theorem row14_any (A : Option Addr) (c len : Nat) (bs : List Int) (W : World) (hlen : bs.length = len) (hb : AreBytes bs) (hr : Reads W W.heap.size 1 A len (bytesV bs)) (hl : len ≤ 9223372036854775807) :
    Calls Try.prog 14 #[.slice A len c] W (BytesBack W) := by
  go_enter Try.func14, Try.ntmps14
  go_wp2_with fail
  go_loopw [3, 4] (fun v3 v4 (w : World) => ∃ (i : Nat) (os : List Int), i ≤ len ∧ i ≤ 300 ∧ v4 = .int .i64 i ∧ os.length = i ∧ AreBytes os ∧ w.ownsRow W.heap.size 5 1 v3 os.length (bytesV os) ∧ Below W.heap.size W w) (fun _ v4 _ => len - (intOf v4).toNat)
  case atStart => exact ⟨0, [], by omega, by omega, rfl, rfl, (fun x hx => by cases hx), World.ownsRow_nil _ _ _ _, Below.refl _ _⟩
  case round =>
    obtain ⟨i, os, hi, hi3, rfl, hol, hos, hown, hbe⟩ := hrel
    by_cases hlt : i < len
    · by_cases hlt3 : i < 300
      · obtain ⟨ad, u, rfl, _, hx, hc⟩ := (hr.below hbe).at_ hlt
        have hx' : bs[i]? = some (bs.getD i 0) := by rw [List.getD_eq_getElem?_getD, List.getElem?_eq_getElem (by omega)]; rfl
        obtain rfl : u = .int .u8 (bs.getD i 0) := by
          rw [bytesV, List.getElem?_map, hx'] at hx; simpa using hx.symm
        obtain ⟨g0, g1⟩ := getD_bd hb i
        generalize bs.getD i 0 = y at *
        clear hx hx'
        have fin : ∀ z : Int, 0 ≤ z → z ≤ 255 → ∀ (v' : Value) (w' : World), w'.ownsRow W.heap.size 5 1 v' (os.length + 1) (bytesV os ++ [.int .u8 z]) → os.length + 1 = i + 1 → AreBytes (os ++ [z]) ∧ w'.ownsRow W.heap.size 5 1 v' (os ++ [z]).length (bytesV (os ++ [z])) := fun z z0 z1 v' w' h1 _ => by
          refine ⟨fun x hx => ?_, by rw [List.length_append, bytesV, List.map_append]; exact h1⟩
          rcases List.mem_append.1 hx with h | h
          · exact hos x h
          · obtain rfl := List.mem_singleton.1 h
            exact ⟨z0, z1⟩
        have FIN := Lib.hid fin
        clear fin
        have ap : ∀ z : Int, (wr.alloc (.cells #[.int .u8 z] 5)).ownsRow W.heap.size 5 1 u3 os.length (bytesV os) := fun z => own_grown hown (World.grownBy_alloc _ _ none) (fun _ _ => by simp)
        have AP := Lib.hid ap
        have hbz : ∀ z : Int, Below W.heap.size W (wr.alloc (.cells #[.int .u8 z] 5)) := fun z => hbe.alloc hbe.size _
        have HBZ := Lib.hid hbz
        clear ap hbz
        rcases (by omega : y % 4 = 0 ∨ y % 4 = 1 ∨ ¬ y % 4 = 0 ∧ ¬ y % 4 = 1) with hy | hy | ⟨hy, hy2⟩
        · go_wp2_with (refine append_one (u := .int .u8 255) info5 rfl Try.underlying22 rfl (.tmp 26) (.tmp 28) rfl W.heap.size u3 os.length (bytesV os) rfl (AP.out _) wr.heap.size rfl (Blk.new wr 5 _) rfl (by omega) (by omega) (HBZ.out 255).size ?_; intro v' w' hown3 hg3)
          have hb3 := below_own (AP.out _) hg3 (Nat.le_refl _) (HBZ.out 255).size
          obtain ⟨f1, f2⟩ := FIN.out _ (by omega) (by omega) _ _ hown3 (by omega)
          go_roundw
          case rel => exact ⟨i + 1, _, by omega, by omega, by go_num, by simp; omega, f1, f2, (HBZ.out _).trans hb3⟩
          case measure => simp [intOf]; omega
        · go_wp2_with (refine append_one (u := .int .u8 0) info5 rfl Try.underlying22 rfl (.tmp 26) (.tmp 28) rfl W.heap.size u3 os.length (bytesV os) rfl (AP.out _) wr.heap.size rfl (Blk.new wr 5 _) rfl (by omega) (by omega) (HBZ.out 0).size ?_; intro v' w' hown3 hg3)
          have hb3 := below_own (AP.out _) hg3 (Nat.le_refl _) (HBZ.out 0).size
          obtain ⟨f1, f2⟩ := FIN.out _ (by omega) (by omega) _ _ hown3 (by omega)
          go_roundw
          case rel => exact ⟨i + 1, _, by omega, by omega, by go_num, by simp; omega, f1, f2, (HBZ.out _).trans hb3⟩
          case measure => simp [intOf]; omega
        · go_wp2_with (refine append_one (u := .int .u8 y) info5 rfl Try.underlying22 rfl (.tmp 26) (.tmp 28) rfl W.heap.size u3 os.length (bytesV os) rfl (AP.out _) wr.heap.size rfl (Blk.new wr 5 _) rfl (by omega) (by omega) (HBZ.out y).size ?_; intro v' w' hown3 hg3)
          have hb3 := below_own (AP.out _) hg3 (Nat.le_refl _) (HBZ.out y).size
          obtain ⟨f1, f2⟩ := FIN.out _ (by omega) (by omega) _ _ hown3 (by omega)
          go_roundw
          case rel => exact ⟨i + 1, _, by omega, by omega, by go_num, by simp; omega, f1, f2, (HBZ.out _).trans hb3⟩
          case measure => simp [intOf]; omega
      · go_wp2_with fail
        obtain ⟨A3, c3, rfl, _⟩ := own_form hown
        go_ret
        exact ⟨_, os, rfl, hos, by omega, hown, hbe⟩
    · go_wp2_with fail
      obtain ⟨A3, c3, rfl, _⟩ := own_form hown
      go_ret
      exact ⟨_, os, rfl, hos, by omega, hown, hbe⟩
end Go.Proofs.Ytbjcjddaaegheaa
