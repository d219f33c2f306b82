/- The chapter's examples hold: 'known' of chapter 01 returns true and leaves the world as it was. No condition. -/
import Derived.Test.YthgbjccjneedgaaNumB
namespace Go.Proofs.Ythgbjccjneedgaa
open Go.RowKit

theorem ret_eq {k : IntKind} {a b : Int} {f : FuncId} {args : Array Value} {w : World} (h : Calls Try.prog f args w fun e w' => e = .returned (.int k a) ∧ w = w') (hab : a = b) :
    Calls Try.prog f args w fun e w' => e = .returned (.int k b) ∧ w = w' := by rw [← hab]; exact h

theorem known_any (w : World) : Calls Try.prog 11 #[] w fun e w' => e = .returned (.bool true) ∧ w = w' := by
  go_enter Try.func11, Try.ntmps11
  go_wp2_with fail
  refine (ret_eq (b := 3) (size_any _ _ (by decide) (by decide)) (by decide)).mono ?_
  rintro e w' ⟨rfl, rfl⟩
  go_wp2_with fail
  refine (ret_eq (b := 2) (low_any _ _ (by decide) (by decide)) (by decide)).mono ?_
  rintro e w' ⟨rfl, rfl⟩
  go_wp2_with fail
  refine (ret_eq (b := -5) (back_any _ _ _ (by decide) (by decide) (by decide) (by decide)) (by decide)).mono ?_
  rintro e w' ⟨rfl, rfl⟩
  go_wp2_with fail
  refine (ret_eq (b := 3) (round_any _ _ _ (by decide) (by decide) (by decide) (by decide)) (by decide)).mono ?_
  rintro e w' ⟨rfl, rfl⟩
  go_wp2_with fail
  refine (ret_eq (b := -3) (round_any _ _ _ (by decide) (by decide) (by decide) (by decide)) (by decide)).mono ?_
  rintro e w' ⟨rfl, rfl⟩
  go_wp2_with fail
  refine (ret_eq (b := 5) (clip_any _ _ _ _) (by decide)).mono ?_
  rintro e w' ⟨rfl, rfl⟩
  go_wp2_with fail
  refine (ret_eq (b := 2) (ceil_any _ _ _ (by decide) (by decide) (by decide) (by decide)) (by decide)).mono ?_
  rintro e w' ⟨rfl, rfl⟩
  go_wp2_with fail
  go_ret
  exact ⟨rfl, rfl⟩
end Go.Proofs.Ythgbjccjneedgaa
