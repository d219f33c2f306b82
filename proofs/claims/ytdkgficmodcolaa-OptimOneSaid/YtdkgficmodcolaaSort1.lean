/- The comparison of two values by their sizes; a row of bytes in memory. -/
import Derived.Test.YtdkgficmodcolaaWeights
import Derived.Test.YtdkgficmodcolaaHeapMath
import Derived.Test.YtdkgficmodcolaaBytes
import Derived.Deep.QuietTactic
import Derived.BigQuiet
namespace Go.Proofs.Ytdkgficmodcolaa
open Go.RowKit

/-- sizes that are fit -/
structure FitS (s : List Int) : Prop where
  len : s.length = 257
  bd : ∀ i, 0 ≤ s.getD i 0 ∧ s.getD i 0 ≤ 1000000
set_option maxRecDepth 100000 in
set_option maxHeartbeats 800000 in
theorem best1_any (sb : Nat) (s : List Int) (a b : Nat) (W : World) (hB : Blk W sb 43 (intsC s)) (hs : FitS s) (ha : a ≤ 255) (hb : b ≤ 255) :
    Calls Try.prog 18 #[.int .u8 a, .int .u8 b, .pointer (some ⟨sb, 0, none⟩)] W fun e w' => e = .returned (.int .i64 (cmpS (s.getD a 0) (s.getD b 0))) ∧ ∃ m, w' = W.drewN m := by
  have ca : W.cell? ⟨sb, a, none⟩ = some (.int .i64 (s.getD a 0)) := by rw [hB.cell]; exact intsC_at s a (by rw [hs.len]; omega)
  have cb : W.cell? ⟨sb, b, none⟩ = some (.int .i64 (s.getD b 0)) := by rw [hB.cell]; exact intsC_at s b (by rw [hs.len]; omega)
  obtain ⟨x0, x1⟩ := hs.bd a
  obtain ⟨y0, y1⟩ := hs.bd b
  generalize s.getD a 0 = x at *
  generalize s.getD b 0 = y at *
  clear hs
  go_enter Try.func18, Try.ntmps18
  go_wp2_with fail
  go_quiet (first | (go_at_call 19; exact Calls.quiet_of_same ((compare_any _ _ _ (by omega) (by omega) (by omega) (by omega)).mono fun e w' h => ⟨h.1, h.2.symm⟩)))
  go_wp2
  go_ret
  exact ⟨rfl, _, rfl⟩
end Go.Proofs.Ytdkgficmodcolaa
