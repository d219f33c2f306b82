/- weights: how often each comes. -/
import Derived.Test.YtdkgficmodcolaaHeap
namespace Go.Proofs.Ytdkgficmodcolaa
open Go.RowKit

def intsC (z : List Int) : Array Value := (z.map (Value.int .i64)).toArray
theorem intsC_size (z : List Int) : (intsC z).size = z.length := by simp [intsC]
theorem intsC_at (z : List Int) (i : Nat) (h : i < z.length) : (intsC z)[i]? = some (.int .i64 (z.getD i 0)) := by
  simp only [intsC, List.getElem?_toArray, List.getElem?_map, List.getElem?_eq_getElem h, List.getD_eq_getElem?_getD]; rfl
theorem intsC_set (z : List Int) (i : Nat) (x : Int) : (intsC z).setIfInBounds i (.int .i64 x) = intsC (z.set i x) := by
  simp [intsC, List.map_set]
theorem intsC_one (z : List Int) : (intsC z).all (·.oneCell') = true := all_one_of fun i v h => by
  simp only [intsC, List.getElem?_toArray, List.getElem?_map] at h
  obtain ⟨x, _, rfl⟩ := Option.map_eq_some_iff.1 h
  rfl
theorem size50 (z : List Int) (h : z.length = 256) : (Try.prog.info? 50).map (·.size) = some (intsC z).size := by rw [intsC_size, h]; kernel_rfl
theorem zero50 : ∀ w, (zeroValue 50).run Try.prog w = .ok (.agg (intsC (List.replicate 256 0))) w := fun w => by kernel_rfl
theorem size43 (z : List Int) (h : z.length = 257) : (Try.prog.info? 43).map (·.size) = some (intsC z).size := by rw [intsC_size, h]; kernel_rfl
theorem zero43 : ∀ w, (zeroValue 43).run Try.prog w = .ok (.agg (intsC (List.replicate 257 0))) w := fun w => by kernel_rfl
/-- how often, cut to bounds -/
def clipW (x : Int) : Int := max 0 (min x 1048576)
def weightsS (l : List Int) : List Int := (List.range 256).map fun i => clipW (l.getD i 0)
def weightsT (l : List Int) (k : Nat) : List Int := (List.range 256).map fun i => if i < k then clipW (l.getD i 0) else 0
theorem weightsT_len (l : List Int) (k : Nat) : (weightsT l k).length = 256 := by simp [weightsT]
theorem weightsS_len (l : List Int) : (weightsS l).length = 256 := by simp [weightsS]
theorem weightsT_zero (l : List Int) : weightsT l 0 = List.replicate 256 0 := by
  apply List.ext_getElem
  · rw [weightsT_len, List.length_replicate]
  · intro i h1 h2
    simp only [weightsT, List.getElem_map, List.getElem_range, List.getElem_replicate]
    rw [if_neg (by omega)]
theorem weightsT_all (l : List Int) (k : Nat) (h : min l.length 256 ≤ k) : weightsT l k = weightsS l := by
  apply List.ext_getElem
  · simp [weightsT, weightsS]
  · intro i h1 h2
    simp only [weightsT, weightsS, List.getElem_map, List.getElem_range]
    rw [weightsT_len] at h1
    by_cases hk : i < k
    · rw [if_pos hk]
    · rw [if_neg hk, List.getD_eq_getElem?_getD, List.getElem?_eq_none (by omega)]; rfl
theorem weightsT_set (l : List Int) (k : Nat) (_ : k < 256) : (weightsT l k).set k (clipW (l.getD k 0)) = weightsT l (k + 1) := by
  apply List.ext_getElem
  · simp [weightsT]
  · intro i h1 h2
    rw [List.getElem_set]
    simp only [weightsT, List.getElem_map, List.getElem_range]
    by_cases e : k = i
    · subst e; simp
    · rw [if_neg e]
      by_cases hk : i < k
      · rw [if_pos hk, if_pos (by omega)]
      · rw [if_neg hk, if_neg (by omega)]
def WfInts (l : List Int) : Prop := ∀ x ∈ l, -9223372036854775808 ≤ x ∧ x ≤ 9223372036854775807

set_option maxRecDepth 100000 in
set_option maxHeartbeats 800000 in
theorem weights_any (A : Option Addr) (c len : Nat) (l : List Int) (W : World) (hlen : l.length = len) (hw : WfInts l) (hr : Reads W W.heap.size 1 A len (l.map (Value.int .i64))) (hl : len ≤ 9223372036854775807) :
    Calls Try.prog 20 #[.slice A len c] W fun e w' => e = .returned (.agg (intsC (weightsS l))) ∧ Below W.heap.size W w' := by
  have hz := zero50
  have hsz : ∀ k, (Try.prog.info? 50).map (·.size) = some (intsC (weightsT l k)).size := fun k => size50 _ (weightsT_len l k)
  have hone : ∀ k, (intsC (weightsT l k)).all (·.oneCell') = true := fun k => intsC_one _
  have hos : ∀ k, (intsC (weightsT l 0)).size = (intsC (weightsT l k)).size := fun k => by rw [intsC_size, intsC_size, weightsT_len, weightsT_len]
  rw [← weightsT_zero l] at hz
  have hR := (Blk.new W 50 (intsC (weightsT l 0))).alloc (.cells (intsC (weightsT l 0)) 50)
  have hB := Blk.new (W.alloc (.cells (intsC (weightsT l 0)) 50)) 50 (intsC (weightsT l 0))
  rw [World.size_alloc] at hB
  have hbe : Below W.heap.size W ((W.alloc (.cells (intsC (weightsT l 0)) 50)).alloc (.cells (intsC (weightsT l 0)) 50)) := ((Below.refl _ _).alloc (Nat.le_refl _) _).alloc (by simp) _
  have HSZ := Lib.hid hsz
  have HONE := Lib.hid hone
  have HOS := Lib.hid hos
  have hmin : (min (len : Int) 256) = ((min len 256 : Nat) : Int) := by omega
  obtain ⟨m, hm⟩ : ∃ m, m = min len 256 := ⟨_, rfl⟩
  rw [← hm] at hmin
  have hm2 : m ≤ 256 := by omega
  have hm3 : m ≤ len := by omega
  have HMIN := Lib.hid hm
  clear hsz hone hos hm
  go_enter Try.func20, Try.ntmps20
  go_wp2_with fail
  go_loopw [8] (fun v8 (w : World) => ∃ k : Nat, k ≤ m ∧ v8 = .int .i64 k ∧ Blk w W.heap.size 50 (intsC (weightsT l 0)) ∧ Blk w (W.heap.size + 1) 50 (intsC (weightsT l k)) ∧ Below W.heap.size W w) (fun v8 _ => m - (intOf v8).toNat)
  case atStart => exact ⟨0, by omega, rfl, hR, hB, hbe⟩
  case round =>
    clear hR hB hbe
    obtain ⟨k, hk, rfl, hR, hB, hbe⟩ := hrel
    by_cases hlt : k < m
    · obtain ⟨ad, u, rfl, _, hx, hc⟩ := (hr.below hbe).at_ (k := k) (by omega)
      have hx' : l[k]? = some (l.getD k 0) := by rw [List.getD_eq_getElem?_getD, List.getElem?_eq_getElem (by omega)]; rfl
      obtain rfl : u = .int .i64 (l.getD k 0) := by
        rw [List.getElem?_map, hx'] at hx; simpa using hx.symm
      obtain ⟨x0, x1⟩ := hw _ (List.mem_of_getElem? hx')
      have hst := weightsT_set l k (by omega)
      have hsetB := hB.set_ k (.int .i64 (clipW (l.getD k 0)))
      rw [intsC_set, hst] at hsetB
      have hcB : wr.cell? ⟨W.heap.size + 1, k, none⟩ = some (.int .i64 ((weightsT l k).getD k 0)) := by rw [hB.cell]; exact intsC_at _ _ (by rw [weightsT_len]; omega)
      have hfB := hB.frozen k
      have hRn := hR.far (p := ⟨W.heap.size + 1, k, none⟩) (by simp) (.int .i64 (clipW (l.getD k 0)))
      have hben := hbe.setCell (p := ⟨W.heap.size + 1, k, none⟩) (by simp) (.int .i64 (clipW (l.getD k 0)))
      unfold clipW at hsetB hRn hben
      generalize l.getD k 0 = x at *
      generalize (weightsT l k).getD k 0 = y at *
      have hm0 : -9223372036854775808 ≤ max 0 (min x 1048576) := by omega
      have hm1 : max 0 (min x 1048576) ≤ 1048576 := by omega
      clear hx hx' hst hR hB hbe
      go_wp2_with fail
      go_roundw
      case rel => exact ⟨k + 1, by omega, by go_num, hRn, hsetB, hben⟩
      case measure => simp [intOf]; omega
    · obtain rfl : k = m := by omega
      rw [weightsT_all l k (by rw [HMIN.out, hlen]; exact Nat.le_refl _)] at hB
      have hs2 := size50 _ (weightsS_len l)
      have ho2 := intsC_one (weightsS l)
      have hos2 : (intsC (weightsT l 0)).size = (intsC (weightsS l)).size := by rw [intsC_size, intsC_size, weightsT_len, weightsS_len]
      have HO2 := Lib.hid hos2
      clear hos2
      go_wp2_with (first | (refine wpList_load_blk rfl 50 (.tmp 3) rfl (W.heap.size + 1) rfl 50 _ _ hB Try.underlying50 rfl hs2 ?_) | (refine wpList_store_blk rfl 50 (.tmp 2) (.tmp 20) rfl W.heap.size rfl 50 _ _ rfl hR hs2 HO2.out ho2 ?_; intro w5 hR5 hg5 hs5; clear hs5))
      exact bodyPost_ret (results_cell_blk rfl _ _ W.heap.size 50 _ _ rfl hR5 Try.underlying50 rfl hs2) rfl ⟨rfl, hbe.grown hg5 hbe.size (fun k e => by cases e; exact Nat.le_refl _)⟩
end Go.Proofs.Ytdkgficmodcolaa
