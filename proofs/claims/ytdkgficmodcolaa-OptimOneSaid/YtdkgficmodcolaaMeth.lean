/- What a call by an interface leads to; comparing; Less, Swap, Len of the waiting trees. -/
import Derived.Test.YtdkgficmodcolaaProg
import Derived.Test.YtdkgficmodcolaaArr
import Derived.Test.YtdkgficmodcolaaAppend
import Derived.WalkKit
import Derived.BigQuiet
import Derived.Outline
import Derived.Lib.Hide
import Derived.KernelRfl
import Derived.Deep.RegionWith
import Derived.Deep.RegionHeld3
import Derived.Great.Walk
namespace Go.Proofs.Ytdkgficmodcolaa
open Go.RowKit

theorem meth_val {name : String} {f : Nat} (hm : (Try.prog.info? 62).map (fun i => (i.methods.find? (·.name == name)).map fun m => (m.path.size, m.func)) = some (some (0, some (f, false)))) (gl : Nat) (v : Value) (w : World) (hc : w.cell? ⟨gl, 0, none⟩ = some v) :
    (method 197 62 (.pointer (some ⟨gl, 0, none⟩)) name).run Try.prog w = .ok (f, v) w := by
  obtain ⟨i, hi, h1⟩ := Option.map_eq_some_iff.1 hm
  obtain ⟨m, hf, h2⟩ := Option.map_eq_some_iff.1 h1
  simp only [Prod.mk.injEq] at h2
  obtain ⟨h3, h4⟩ := h2
  have hp : m.path = #[] := Array.size_eq_zero_iff.1 h3
  have hl := loadVar_one (P := Try.prog) (t := 60) (w := w) (p := ⟨gl, 0, none⟩) (v := v) Try.underlying60 rfl hc
  have hw : ∀ (a : Addr) (s t : String), (Builtin.ssaWrapNilChk_ #[62] 62 #[.pointer (some a), strVal s, strVal t]).run Try.prog w = .ok (.pointer (some a)) w := fun a s t => rfl
  unfold method
  simp [typeInfo, hi, hf, hp, h4, follow, receiverAt, run_underlying Try.underlying62, Place.get, hw, asAddr, hc, go_sem]
theorem meth_ptr {name : String} {f : Nat} (hm : (Try.prog.info? 62).map (fun i => (i.methods.find? (·.name == name)).map fun m => (m.path.size, m.func)) = some (some (0, some (f, true)))) (gl : Nat) (w : World) :
    (method 197 62 (.pointer (some ⟨gl, 0, none⟩)) name).run Try.prog w = .ok (f, .pointer (some ⟨gl, 0, none⟩)) w := by
  obtain ⟨i, hi, h1⟩ := Option.map_eq_some_iff.1 hm
  obtain ⟨m, hf, h2⟩ := Option.map_eq_some_iff.1 h1
  simp only [Prod.mk.injEq] at h2
  obtain ⟨h3, h4⟩ := h2
  have hp : m.path = #[] := Array.size_eq_zero_iff.1 h3
  unfold method
  simp [typeInfo, hi, hf, hp, h4, follow, receiverAt, run_underlying Try.underlying62, Place.get, go_sem]
theorem meth_Len (gl : Nat) (v : Value) (w : World) (hc : w.cell? ⟨gl, 0, none⟩ = some v) : (method 197 62 (.pointer (some ⟨gl, 0, none⟩)) "Len").run Try.prog w = .ok (23, v) w := meth_val (by kernel_rfl) gl v w hc
theorem meth_Less (gl : Nat) (v : Value) (w : World) (hc : w.cell? ⟨gl, 0, none⟩ = some v) : (method 197 62 (.pointer (some ⟨gl, 0, none⟩)) "Less").run Try.prog w = .ok (51, v) w := meth_val (by kernel_rfl) gl v w hc
theorem meth_Swap (gl : Nat) (v : Value) (w : World) (hc : w.cell? ⟨gl, 0, none⟩ = some v) : (method 197 62 (.pointer (some ⟨gl, 0, none⟩)) "Swap").run Try.prog w = .ok (52, v) w := meth_val (by kernel_rfl) gl v w hc
theorem meth_Pop (gl : Nat) (w : World) : (method 197 62 (.pointer (some ⟨gl, 0, none⟩)) "Pop").run Try.prog w = .ok (54, .pointer (some ⟨gl, 0, none⟩)) w := meth_ptr (by kernel_rfl) gl w
theorem meth_Push (gl : Nat) (w : World) : (method 197 62 (.pointer (some ⟨gl, 0, none⟩)) "Push").run Try.prog w = .ok (55, .pointer (some ⟨gl, 0, none⟩)) w := meth_ptr (by kernel_rfl) gl w

theorem isNaN_any (n : Int) (w : World) : Calls Try.prog 27 #[.int .i64 n] w fun e w' => e = .returned (.bool false) ∧ w = w' := by
  go_enter Try.func27, Try.ntmps27
  go_wp2
  go_ret
  exact ⟨by simp, rfl⟩
def cmpS (a b : Int) : Int := if a < b then -1 else if b < a then 1 else 0
theorem compare_any (a b : Int) (w : World) (_ : -9223372036854775808 ≤ a) (_ : a ≤ 9223372036854775807) (_ : -9223372036854775808 ≤ b) (_ : b ≤ 9223372036854775807) : Calls Try.prog 19 #[.int .i64 a, .int .i64 b] w fun e w' => e = .returned (.int .i64 (cmpS a b)) ∧ w = w' := by
  unfold cmpS
  rcases Int.lt_trichotomy a b with h | h | h
  · rw [if_pos h]
    go_enter Try.func19, Try.ntmps19
    go_wp2_with (first | (go_at_call 27; refine (isNaN_any _ _).mono ?_; rintro e w' ⟨rfl, rfl⟩))
    go_ret
    exact ⟨rfl, rfl⟩
  · rw [if_neg (by omega), if_neg (by omega)]
    go_enter Try.func19, Try.ntmps19
    go_wp2_with (first | (go_at_call 27; refine (isNaN_any _ _).mono ?_; rintro e w' ⟨rfl, rfl⟩))
    go_ret
    exact ⟨rfl, rfl⟩
  · rw [if_neg (by omega), if_pos h]
    go_enter Try.func19, Try.ntmps19
    go_wp2_with (first | (go_at_call 27; refine (isNaN_any _ _).mono ?_; rintro e w' ⟨rfl, rfl⟩))
    go_ret
    exact ⟨rfl, rfl⟩
/-- Or of two -/
theorem or2_any (a b : Int) (g : Nat) (w : World) (hB : Blk w g 3 #[.int .i64 a, .int .i64 b]) : Calls Try.prog 53 #[.slice (some ⟨g, 0, none⟩) 2 2] w fun e w' => e = .returned (.int .i64 (if a = 0 then b else a)) ∧ w = w' := by
  have c0 := hB.cell 0
  have c1 := hB.cell 1
  simp only [List.getElem?_toArray, List.getElem?_cons_zero, List.getElem?_cons_succ] at c0 c1
  go_enter Try.func53, Try.ntmps53
  go_wp2
  go_loop [8] (fun v8 => ∃ i : Nat, i ≤ 2 ∧ v8 = .int .i64 i ∧ (1 ≤ i → a = 0) ∧ (2 ≤ i → b = 0)) (fun v8 => 2 - (intOf v8).toNat)
  case atStart => exact ⟨0, by omega, rfl, fun h => absurd h (by omega), fun h => absurd h (by omega)⟩
  case round =>
    obtain ⟨i, hi, rfl, hA, hB'⟩ := hrel
    rcases (by omega : i = 0 ∨ i = 1 ∨ i = 2) with rfl | rfl | rfl
    · by_cases ha : a = 0
      · have hae : (a != 0) = false := by simp [ha]
        go_wp2
        go_round
        case rel => exact ⟨1, by omega, rfl, fun _ => ha, fun h => absurd h (by omega)⟩
        case measure => simp [intOf]
      · have hae : (a != 0) = true := by simp [ha]
        go_wp2
        go_ret
        exact ⟨by first | rfl | (rw [if_neg ha]; rfl), rfl⟩
    · have ha := hA (by omega)
      by_cases hb : b = 0
      · have hbe : (b != 0) = false := by simp [hb]
        go_wp2
        go_round
        case rel => exact ⟨2, by omega, rfl, fun _ => ha, fun _ => hb⟩
        case measure => simp [intOf]
      · have hbe : (b != 0) = true := by simp [hb]
        go_wp2
        go_ret
        exact ⟨by first | rfl | (rw [if_pos ha]; rfl), rfl⟩
    · have ha := hA (by omega)
      have hb := hB' (by omega)
      go_wp2
      go_ret
      exact ⟨by first | rfl | (rw [if_pos ha, hb]; rfl), rfl⟩
end Go.Proofs.Ytdkgficmodcolaa
