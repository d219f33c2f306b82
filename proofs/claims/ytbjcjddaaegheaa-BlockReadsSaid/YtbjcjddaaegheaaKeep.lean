/- block.Keep. -/
import Derived.Test.YtbjcjddaaegheaaReadS
namespace Go.Proofs.Ytbjcjddaaegheaa
open Go.RowKit

def keepT : List Int → Int → List Int
  | [], _ => []
  | x :: t, n => if x = 0 then 0 :: keepT t n else if 0 < n then x :: keepT t (n - 1) else 0 :: keepT t n
def keepS (z : List Int) (n : Int) : List Int := z.take 1 ++ keepT (z.drop 1) n

theorem drop_getD (z : List Int) (k : Nat) (h : k < z.length) : z.drop k = z.getD k 0 :: z.drop (k + 1) := by
  rw [List.drop_eq_getElem_cons h, List.getD_eq_getElem?_getD, List.getElem?_eq_getElem h]; rfl
theorem take_getD (z : List Int) (k : Nat) (h : k < z.length) : z.take (k + 1) = z.take k ++ [z.getD k 0] := by
  rw [List.take_succ_eq_append_getElem h, List.getD_eq_getElem?_getD, List.getElem?_eq_getElem h]; rfl
theorem keep_zero {z S : List Int} {k : Nat} {n : Int} (h : k < z.length) (h0 : z.getD k 0 = 0) (hS : S = z.take k ++ keepT (z.drop k) n) : S = z.take (k + 1) ++ keepT (z.drop (k + 1)) n := by
  rw [hS, drop_getD z k h, take_getD z k h, keepT, if_pos h0, h0, List.append_assoc]; rfl
theorem keep_yes {z S : List Int} {k : Nat} {n : Int} (h : k < z.length) (h0 : z.getD k 0 ≠ 0) (hn : 0 < n) (hS : S = z.take k ++ keepT (z.drop k) n) : S = z.take (k + 1) ++ keepT (z.drop (k + 1)) (n - 1) := by
  rw [hS, drop_getD z k h, take_getD z k h, keepT, if_neg h0, if_pos hn, List.append_assoc]; rfl
theorem keep_no {z S : List Int} {k : Nat} {n : Int} (h : k < z.length) (h0 : z.getD k 0 ≠ 0) (hn : ¬ 0 < n) (hS : S = z.take k ++ keepT (z.drop k) n) : S = (z.set k 0).take (k + 1) ++ keepT ((z.set k 0).drop (k + 1)) n := by
  rw [hS, drop_getD z k h, keepT, if_neg h0, if_neg hn, List.drop_set_of_lt (by omega), take_getD _ k (by simpa using h), List.take_set_of_le (Nat.le_refl _), List.append_assoc]
  rw [List.getD_eq_getElem?_getD, List.getElem?_set_self h]; rfl

set_option maxHeartbeats 1000000 in
theorem keep_any (z : List Int) (n : Int) (W : World) (hz : z.length = 64) (n0 : -9223372036854775808 ≤ n) (n1 : n ≤ 9223372036854775807) :
    Calls Try.prog 19 #[.agg (intsC z), .int .i64 n] W fun e w' => e = .returned (.agg (intsC (keepS z n))) ∧ Below W.heap.size W w' := by
  have hz0 := zero33
  have hsz := size33 z hz
  have hone := intsC_one (keepS z n)
  have hat := intsC_at z
  obtain ⟨S, hS⟩ : ∃ S, S = keepS z n := ⟨_, rfl⟩
  rw [← hS]
  obtain ⟨zz, hzz⟩ : ∃ zz, zz = List.replicate 64 (0 : Int) := ⟨_, rfl⟩
  rw [← hzz] at hz0
  have hB := (Blk.new W 33 (intsC z)).alloc (.cells (intsC zz) 33)
  have hC := Blk.new (W.alloc (.cells (intsC z) 33)) 33 (intsC zz)
  have hbe : Below W.heap.size W ((W.alloc (.cells (intsC z) 33)).alloc (.cells (intsC zz) 33)) := ((Below.refl _ _).alloc (Nat.le_refl _) _).alloc (by simp) _
  rw [World.size_alloc] at hC
  have HZ := Lib.hid hz
  have HS := Lib.hid hS
  have HZZ := Lib.hid hzz
  clear hS hzz hz
  go_enter Try.func19, Try.ntmps19
  go_wp2_with fail
  go_loopw [1, 6] (fun m k (w : World) => ∃ (i : Nat) (y : Int) (l : List Int), i ≤ 64 ∧ k = .int .i64 i ∧ m = .int .i64 y ∧ -9223372036854775808 ≤ y ∧ y ≤ 9223372036854775807 ∧ l.length = 64 ∧ Blk w W.heap.size 33 (intsC l) ∧ Blk w (W.heap.size + 1) 33 (intsC zz) ∧ Below W.heap.size W w ∧ (i = 0 → y = n ∧ l = z) ∧ (0 < i → S = l.take i ++ keepT (l.drop i) y)) (fun _ k _ => 64 - (intOf k).toNat)
  case atStart => exact ⟨0, n, z, by omega, rfl, rfl, n0, n1, HZ.out, hB, hC, hbe, fun _ => ⟨rfl, rfl⟩, fun h => absurd h (by omega)⟩
  case round =>
    clear hB hC hbe
    obtain ⟨i, y, l, hi, rfl, rfl, y0, y1, hl, hBr, hCr, hber, h0, hS⟩ := hrel
    have hs1 := hber.size
    have HL := Lib.hid hl
    clear hl
    by_cases hlt : i < 64
    · have hlt' : i < l.length := by rw [HL.out]; exact hlt
      have hcl : wr.cell? ⟨W.heap.size, i, none⟩ = some (.int .i64 (l.getD i 0)) := by rw [hBr.cell]; exact intsC_at l i hlt'
      have hfl := hBr.frozen i
      obtain ⟨x, hx⟩ : ∃ x, x = l.getD i 0 := ⟨_, rfl⟩
      rw [← hx] at hcl
      have HX := Lib.hid hx
      clear hx
      rcases Nat.eq_zero_or_pos i with hi0 | hi0
      · obtain ⟨rfl, rfl⟩ := h0 hi0
        subst hi0
        clear hS h0
        go_wp2_with fail
        go_roundw
        case rel => exact ⟨1, _, _, by omega, rfl, rfl, y0, y1, HL.out, hBr, hCr, hber, fun h => absurd h (by omega), fun _ => HS.out⟩
        case measure => simp [intOf]
      · have hS := Lib.hid (hS hi0)
        clear h0
        by_cases hx0 : x = 0
        · subst hx0
          go_wp2_with fail
          go_roundw
          case rel => exact ⟨i + 1, _, _, by omega, by go_num, rfl, y0, y1, HL.out, hBr, hCr, hber, fun h => absurd h (by omega), fun _ => keep_zero hlt' HX.out.symm hS.out⟩
          case measure => simp [intOf]; omega
        · have hxe : (x == 0) = false := by simpa using hx0
          have hie : ((i : Int) == 0) = false := by simp; omega
          by_cases hy : 0 < y
          · go_wp2_with fail
            go_roundw
            case rel => exact ⟨i + 1, y - 1, _, by omega, by go_num, by go_num, by omega, by omega, HL.out, hBr, hCr, hber, fun h => absurd h (by omega), fun _ => keep_yes hlt' (by rw [← HX.out]; exact hx0) hy hS.out⟩
            case measure => simp [intOf]; omega
          · go_wp2_with fail
            go_roundw
            case rel => exact ⟨i + 1, y, l.set i 0, by omega, by go_num, rfl, by omega, by omega, by simp [HL.out], by rw [← intsC_set]; exact hBr.set_ i _, hCr.far (p := ⟨W.heap.size, i, none⟩) (by simp) _, hber.setCell (p := ⟨W.heap.size, i, none⟩) (by simp) _, fun h => absurd h (by omega), fun _ => keep_no hlt' (by rw [← HX.out]; exact hx0) hy hS.out⟩
            case measure => simp [intOf]; omega
    · obtain rfl : i = 64 := by omega
      have hS := hS (by omega)
      rw [List.take_of_length_le (by rw [HL.out]; omega), List.drop_eq_nil_of_le (by rw [HL.out]; omega), keepT, List.append_nil] at hS
      subst hS
      have hsz := size33 S HL.out
      have hos : (intsC zz).size = (intsC S).size := by rw [intsC_size, intsC_size, HZZ.out, HL.out]; simp
      have HOS := Lib.hid hos
      clear hos hlt h0
      go_wp2_with (first | (refine wpList_load_blk rfl 33 (.tmp 2) rfl W.heap.size rfl 33 _ _ hBr Try.underlying33 rfl hsz ?_) | (refine wpList_store_blk rfl 33 (.tmp 4) (.tmp 24) rfl (W.heap.size + 1) rfl 33 _ _ rfl hCr hsz HOS.out (intsC_one S) ?_; intro w5 hR5 hg5 hs5; clear hs5))
      exact bodyPost_ret (results_cell_blk rfl _ _ (W.heap.size + 1) 33 _ _ rfl hR5 Try.underlying33 rfl hsz) rfl ⟨rfl, hber.grown hg5 (by omega) (fun k e => by cases e; simp)⟩
end Go.Proofs.Ytbjcjddaaegheaa
