/- tail of both sides. -/
import Derived.Test.YtbjcjddaaegheaaTabC
namespace Go.Proofs.Ytbjcjddaaegheaa
open Go.RowKit

theorem tail_any (n : Int) (W : World) (h0 : -9223372036854775808 ≤ n) (h1 : n ≤ 9223372036854775807) :
    Calls Try.prog 24 #[.int .i64 n] W fun e w' => e = .returned (.agg #[.int .i64 (sizeS n), .int .i64 (lowS n)]) ∧ Below W.heap.size W w' := by
  go_enter Try.func24, Try.ntmps24
  go_wp2_with (first | (go_at_call 23; refine (size_any n _ h0 h1).mono ?_; rintro e w' ⟨rfl, rfl⟩) | (go_at_call 37; refine (low_any n _ h0 h1).mono ?_; rintro e w' ⟨rfl, rfl⟩))
  exact bodyPost_ret (results_cell_blk (P := Try.prog) (fn := Try.f24) rfl _ _ W.heap.size 42 #[.int .i64 (sizeS n), .int .i64 (lowS n)] _ rfl (Blk.new W 42 _) Try.underlying42 rfl (by kernel_rfl)) rfl ⟨rfl, (Below.refl _ _).alloc (Nat.le_refl _) _⟩
theorem rtail_any (n : Int) (W : World) (h0 : -9223372036854775808 ≤ n) (h1 : n ≤ 9223372036854775807) :
    Calls Try.prog 32 #[.int .i64 n] W fun e w' => e = .returned (.agg #[.int .i64 (sizeS n), .int .i64 (lowS n)]) ∧ Below W.heap.size W w' := by
  go_enter Try.func32, Try.ntmps32
  go_wp2_with (first | (go_at_call 31; refine (rsize_any n _ h0 h1).mono ?_; rintro e w' ⟨rfl, rfl⟩) | (go_at_call 42; refine (rlow_any n _ h0 h1).mono ?_; rintro e w' ⟨rfl, rfl⟩))
  exact bodyPost_ret (results_cell_blk (P := Try.prog) (fn := Try.f32) rfl _ _ W.heap.size 42 #[.int .i64 (sizeS n), .int .i64 (lowS n)] _ rfl (Blk.new W 42 _) Try.underlying42 rfl (by kernel_rfl)) rfl ⟨rfl, (Below.refl _ _).alloc (Nat.le_refl _) _⟩
end Go.Proofs.Ytbjcjddaaegheaa
