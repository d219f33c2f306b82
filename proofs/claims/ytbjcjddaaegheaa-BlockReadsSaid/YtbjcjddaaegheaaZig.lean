/- law13.Zig: some block, whose numbers are in bounds. -/
import Derived.Test.YtbjcjddaaegheaaKeep
namespace Go.Proofs.Ytbjcjddaaegheaa
open Go.RowKit

structure Zigged (z : List Int) : Prop where
  len : z.length = 64
  first : -1024 ≤ z.getD 0 0 ∧ z.getD 0 0 ≤ 1023
  all : ∀ i, 0 < i → -1023 ≤ z.getD i 0 ∧ z.getD i 0 ≤ 1023
def Near (z : List Int) : Prop := z.length = 64 ∧ ∀ i, -1023 ≤ z.getD i 0 ∧ z.getD i 0 ≤ 1023
theorem Near.set {z : List Int} (h : Near z) (i : Nat) (x : Int) (h0 : -1023 ≤ x) (h1 : x ≤ 1023) : Near (z.set i x) := by
  refine ⟨by simp [h.1], fun j => ?_⟩
  rw [List.getD_eq_getElem?_getD, List.getElem?_set]
  by_cases hj : i = j
  · subst hj
    rw [if_pos rfl]
    by_cases hi : i < z.length
    · rw [if_pos hi]; exact ⟨h0, h1⟩
    · rw [if_neg hi]; simp
  · rw [if_neg hj, ← List.getD_eq_getElem?_getD]; exact h.2 j
theorem Near.zigged {z : List Int} (h : Near z) : Zigged z := ⟨h.1, ⟨by have := (h.2 0).1; omega, (h.2 0).2⟩, fun i _ => h.2 i⟩
theorem Near.low {z : List Int} (h : Near z) : Zigged (z.set 0 (-1024)) := by
  refine ⟨by simp [h.1], ?_, fun i hi => ?_⟩
  · rw [List.getD_eq_getElem?_getD, List.getElem?_set_self (by rw [h.1]; omega)]; simp
  · rw [List.getD_eq_getElem?_getD, List.getElem?_set_ne (by omega), ← List.getD_eq_getElem?_getD]; exact h.2 i

structure ZInv (W : World) (zz : List Int) (w : World) : Prop where
  z : ∃ z, Near z ∧ Blk w (W.heap.size + 1) 33 (intsC z)
  r : Blk w W.heap.size 33 (intsC zz)
  b : Below W.heap.size W w
theorem ZInv.set {W : World} {zz : List Int} {w : World} (h : ZInv W zz w) (i : Nat) (x : Int) (h0 : -1023 ≤ x) (h1 : x ≤ 1023) : ZInv W zz (w.setCell ⟨W.heap.size + 1, i, none⟩ (.int .i64 x)) := by
  obtain ⟨z, hn, hB⟩ := h.z
  exact ⟨⟨z.set i x, hn.set i x h0 h1, by rw [← intsC_set]; exact hB.set_ i _⟩, h.r.far (p := ⟨W.heap.size + 1, i, none⟩) (by simp) _, h.b.setCell (p := ⟨W.heap.size + 1, i, none⟩) (by simp) _⟩
def ZigPost (W : World) (e : Ending) (w' : World) : Prop := ∃ z, Zigged z ∧ e = .returned (.agg (intsC z)) ∧ Below W.heap.size W w'
set_option maxHeartbeats 1000000 in
theorem zig_any (B : Nat) (A : Option Addr) (c len : Nat) (bs : List Int) (k : Int) (W : World) (hlen : bs.length = len) (hb : AreBytes bs) (hB : B ≤ W.heap.size) (hr : Reads W B 1 A len (bytesV bs))
    (hl : len ≤ 9223372036854775807) (k0 : 0 ≤ k) (k1 : k ≤ 255) :
    Calls Try.prog 12 #[.slice A len c, .int .u8 k] W (ZigPost W) := by
  have hz0 := zero33
  have hsz := size33 (List.replicate 64 0) (by simp)
  have hone := intsC_one (List.replicate 64 0)
  have hnear : Near (List.replicate 64 0) := ⟨by simp, fun i => by rw [List.getD_eq_getElem?_getD, List.getElem?_replicate]; split <;> simp⟩
  obtain ⟨zz, hzz⟩ : ∃ zz, zz = List.replicate 64 (0 : Int) := ⟨_, rfl⟩
  have hbld : ∀ (a : Act) (w : World), (execOp a.eval { dst := some 8, op := Op.build 33 #[], type := 33, pos := "law.go:25", after := #[], guard := none }).run Try.prog w = .ok (.value (.agg (intsC (List.replicate 64 0)))) w := fun a w => by kernel_rfl
  rw [← hzz] at hz0 hsz hone hnear hbld
  have hC := (Blk.new W 33 (intsC zz)).alloc (.cells (intsC zz) 33)
  have hB1 := Blk.new (W.alloc (.cells (intsC zz) 33)) 33 (intsC zz)
  have hbe : Below W.heap.size W ((W.alloc (.cells (intsC zz) 33)).alloc (.cells (intsC zz) 33)) := ((Below.refl _ _).alloc (Nat.le_refl _) _).alloc (by simp) _
  rw [World.size_alloc] at hB1
  have HZZ := Lib.hid hzz
  have HLEN := Lib.hid hlen
  have HB := Lib.hid hb
  have HR := Lib.hid (hr.more hB)
  have HBL := Lib.hid hbld
  clear hzz hlen hb hr hbld
  go_enter Try.func12, Try.ntmps12
  go_wp2_with (first | (refine wpList_ran (o := ⟨some 8, _, _, _, _, _⟩) rfl _ (HBL.out _ _) ?_) | (refine wpList_store_blk rfl 33 (.tmp 5) (.tmp 8) rfl (W.heap.size + 1) rfl 33 _ _ rfl hB1 hsz rfl hone ?_; intro w1 hB2 hg1 hs1))
  have hC2 := hC.grown hg1 (fun e => by injection e with e; omega)
  have hbe2 := hbe.grown hg1 (by simp; omega) (fun k e => by cases e; simp)
  clear hB1 hC hbe hg1 hs1
  go_loopw [6] (fun k6 (w : World) => ∃ i : Nat, i ≤ 64 ∧ k6 = .int .i64 i ∧ ZInv W zz w) (fun k6 _ => 64 - (intOf k6).toNat)
  case atStart => exact ⟨0, by omega, rfl, ⟨zz, hnear, hB2⟩, hC2, hbe2⟩
  case round =>
    clear hB2 hC2 hbe2
    obtain ⟨i, hi, rfl, hZ⟩ := hrel
    have hber := hZ.b
    obtain ⟨z, hn, hBr⟩ := hZ.z
    have hs1 := hber.size
    by_cases hend : i < 64 ∧ 0 < len
    · obtain ⟨hlt, hl0⟩ := hend
      have hm : i % len < len := Nat.mod_lt _ hl0
      obtain ⟨ad, u, rfl, _, hx, hcx⟩ := (HR.out.below hber).at_ (k := i % len) hm
      have hx' : bs[i % len]? = some (bs.getD (i % len) 0) := by rw [List.getD_eq_getElem?_getD, List.getElem?_eq_getElem (by rw [HLEN.out]; exact hm)]; rfl
      obtain rfl : u = .int .u8 (bs.getD (i % len) 0) := by
        rw [bytesV, List.getElem?_map, hx'] at hx; simpa using hx.symm
      obtain ⟨v0, v1⟩ := getD_bd HB.out (i % len)
      obtain ⟨x, hx⟩ : ∃ x, x = bs.getD (i % len) 0 := ⟨_, rfl⟩
      rw [← hx] at hcx v0 v1
      have hrem : Int.tmod (i : Int) (len : Int) = ((i % len : Nat) : Int) := by rw [Int.tmod_eq_emod_of_nonneg (by omega)]; omega
      obtain ⟨m, hme⟩ : ∃ m, m = i % len := ⟨_, rfl⟩
      rw [← hme] at hrem hcx hm
      clear hx' hx hme
      have hik0 : 0 ≤ (i : Int) * k := Int.mul_nonneg (by omega) k0
      have hik1 : (i : Int) * k ≤ 63 * 255 := by
        have h1 : (i : Int) * k ≤ i * 255 := Int.mul_le_mul_of_nonneg_left k1 (by omega)
        omega
      have hlen0 : ((len : Int) == 0) = false := by simp; omega
      have hlz : (len : Int) ≠ 0 := by omega
      obtain ⟨y, hy⟩ : ∃ y, y = (i : Int) * k := ⟨_, rfl⟩
      obtain ⟨q, hq⟩ : ∃ q, q = z.getD i 0 := ⟨_, rfl⟩
      have hci : wr.cell? ⟨W.heap.size + 1, i, none⟩ = some (.int .i64 q) := by rw [hBr.cell, hq]; exact intsC_at z i (by rw [hn.1]; exact hlt)
      clear hq
      have hfi := hBr.frozen i
      go_wp2_with fail
      all_goals go_roundw
      all_goals first
        | (refine ⟨i + 1, by omega, by go_num, ?_⟩; repeat' (first | exact hZ | refine ZInv.set ?_ _ _ (by omega) (by omega)))
        | (simp [intOf]; omega)
    · have hCr := hZ.r
      have hci : wr.cell? ⟨W.heap.size + 1, 0, none⟩ = some (.int .i64 (z.getD 0 0)) := by rw [hBr.cell]; exact intsC_at z 0 (by rw [hn.1]; omega)
      have hfi := hBr.frozen 0
      have hos : ∀ z2 : List Int, Zigged z2 → (intsC zz).size = (intsC z2).size := fun z2 h => by rw [intsC_size, intsC_size, HZZ.out, h.len]; simp
      have HOS := Lib.hid hos
      have H33 := Lib.hid (fun (z2 : List Int) (h : Zigged z2) => size33 z2 h.len)
      have hB3 := hBr.set_ 0 (.int .i64 (-1024))
      rw [intsC_set] at hB3
      have hC3 := hCr.far (p := ⟨W.heap.size + 1, 0, none⟩) (by simp) (.int .i64 (-1024))
      have hbe3 := hber.setCell (p := ⟨W.heap.size + 1, 0, none⟩) (by simp) (.int .i64 (-1024))
      have hz1 := hn.zigged
      have hz2 := hn.low
      clear hos hsz hone
      by_cases hlt : i < 64
      · have hl0 : ¬ 0 < len := fun h => hend ⟨hlt, h⟩
        have hl1 : (len : Int) ≤ 0 := by omega
        clear hend
        by_cases hk : k % 8 = 3
        · have hk' : (k % 8 == 3) = true := by simpa using hk
          go_wp2_with (first | (refine wpList_load_blk rfl 33 (.tmp 5) rfl (W.heap.size + 1) rfl 33 _ _ hB3 Try.underlying33 rfl (H33.out _ hz2) ?_) | (refine wpList_store_blk rfl 33 (.tmp 4) (.tmp 70) rfl W.heap.size rfl 33 _ _ rfl hC3 (H33.out _ hz2) (HOS.out _ hz2) (intsC_one _) ?_; intro w5 hR5 hg5 hs5; clear hs5))
          exact bodyPost_ret (results_cell_blk rfl _ _ W.heap.size 33 _ _ rfl hR5 Try.underlying33 rfl (H33.out _ hz2)) rfl ⟨_, hz2, rfl, hbe3.grown hg5 (by simp; omega) (fun k e => by cases e; simp)⟩
        · have hk' : (k % 8 == 3) = false := by simpa using hk
          go_wp2_with (first | (refine wpList_load_blk rfl 33 (.tmp 5) rfl (W.heap.size + 1) rfl 33 _ _ hBr Try.underlying33 rfl (H33.out _ hz1) ?_) | (refine wpList_store_blk rfl 33 (.tmp 4) (.tmp 70) rfl W.heap.size rfl 33 _ _ rfl hCr (H33.out _ hz1) (HOS.out _ hz1) (intsC_one _) ?_; intro w5 hR5 hg5 hs5; clear hs5))
          exact bodyPost_ret (results_cell_blk rfl _ _ W.heap.size 33 _ _ rfl hR5 Try.underlying33 rfl (H33.out _ hz1)) rfl ⟨_, hz1, rfl, hber.grown hg5 (by omega) (fun k e => by cases e; simp)⟩
      · obtain rfl : i = 64 := by omega
        clear hend
        by_cases hk : k % 8 = 3
        · have hk' : (k % 8 == 3) = true := by simpa using hk
          go_wp2_with (first | (refine wpList_load_blk rfl 33 (.tmp 5) rfl (W.heap.size + 1) rfl 33 _ _ hB3 Try.underlying33 rfl (H33.out _ hz2) ?_) | (refine wpList_store_blk rfl 33 (.tmp 4) (.tmp 70) rfl W.heap.size rfl 33 _ _ rfl hC3 (H33.out _ hz2) (HOS.out _ hz2) (intsC_one _) ?_; intro w5 hR5 hg5 hs5; clear hs5))
          exact bodyPost_ret (results_cell_blk rfl _ _ W.heap.size 33 _ _ rfl hR5 Try.underlying33 rfl (H33.out _ hz2)) rfl ⟨_, hz2, rfl, hbe3.grown hg5 (by simp; omega) (fun k e => by cases e; simp)⟩
        · have hk' : (k % 8 == 3) = false := by simpa using hk
          go_wp2_with (first | (refine wpList_load_blk rfl 33 (.tmp 5) rfl (W.heap.size + 1) rfl 33 _ _ hBr Try.underlying33 rfl (H33.out _ hz1) ?_) | (refine wpList_store_blk rfl 33 (.tmp 4) (.tmp 70) rfl W.heap.size rfl 33 _ _ rfl hCr (H33.out _ hz1) (HOS.out _ hz1) (intsC_one _) ?_; intro w5 hR5 hg5 hs5; clear hs5))
          exact bodyPost_ret (results_cell_blk rfl _ _ W.heap.size 33 _ _ rfl hR5 Try.underlying33 rfl (H33.out _ hz1)) rfl ⟨_, hz1, rfl, hber.grown hg5 (by omega) (fun k e => by cases e; simp)⟩
end Go.Proofs.Ytbjcjddaaegheaa
