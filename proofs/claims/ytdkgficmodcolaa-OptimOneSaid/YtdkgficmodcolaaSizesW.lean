/- Sizes: the first 256 of what sizes gives. -/
import Derived.Test.YtdkgficmodcolaaShort
namespace Go.Proofs.Ytdkgficmodcolaa
open Go.RowKit

theorem weightsS_bd (l : List Int) (i : Nat) : 0 ≤ (weightsS l).getD i 0 ∧ (weightsS l).getD i 0 ≤ 1048576 := by
  rw [List.getD_eq_getElem?_getD]
  by_cases hi : i < 256
  · rw [weightsS, List.getElem?_map, List.getElem?_range hi]
    show 0 ≤ clipW _ ∧ clipW _ ≤ 1048576
    unfold clipW; omega
  · rw [List.getElem?_eq_none (by rw [weightsS_len]; omega)]; simp
theorem weightsS_at (l : List Int) (i : Nat) (hi : i < 256) : (weightsS l).getD i 0 = clipW (l.getD i 0) := by
  rw [List.getD_eq_getElem?_getD, weightsS, List.getElem?_map, List.getElem?_range hi]; rfl
theorem sizes_okW {l R : List Int} (h : SizesR (leavesT (weightsS l) 256) (List.replicate 257 0) R) (hl : R.length = 257) : SizesOk (weightsS l) R := sizes_ok (fun i => (weightsS_bd l i).1) h hl
set_option maxRecDepth 100000 in
set_option maxHeartbeats 800000 in
theorem sizesW_any (A : Option Addr) (c len : Nat) (l : List Int) (W : World) (hlen : l.length = len) (hw : WfInts l) (hr : Reads W W.heap.size 1 A len (l.map (Value.int .i64))) (hl : len ≤ 9223372036854775807) :
    Calls Try.prog 8 #[.slice A len c] W fun e w' => ∃ R g, e = .returned (.slice (some ⟨g, 0, none⟩) 256 257) ∧ SizesOk (weightsS l) R ∧ Blk w' g 43 (intsC R) ∧ Below W.heap.size W w' := by
  have KS := Lib.hid (sizes_any A c len l W hlen hw hr hl)
  have hz43 := zero43
  have hsz : (Try.prog.info? 43).map (·.size) = some (intsC (List.replicate 257 0)).size := size43 _ (by simp)
  obtain ⟨z0, hz0⟩ : ∃ z0, z0 = intsC (List.replicate 257 0) := ⟨_, rfl⟩
  rw [← hz0] at hz43 hsz
  have HZ0 := Lib.hid hz0
  clear hz0 hr hw
  go_enter Try.func8, Try.ntmps8
  go_wp2_with fail
  refine KS.out.mono ?_
  rintro e w2 ⟨R, rfl, hR, hRl, hb⟩
  have hok := sizes_okW hR hRl
  have hs2 := size43 R hRl
  have hos2 : z0.size = (intsC R).size := by rw [HZ0.out, intsC_size, intsC_size, hRl]; simp
  have ho2 := intsC_one R
  have hB2 : Blk (w2.alloc (.cells z0 43)) w2.heap.size 43 z0 := Blk.new w2 43 z0
  have hbe := hb.alloc hb.size (.cells z0 43)
  have HOS2 := Lib.hid hos2
  clear hR hos2
  go_wp2_with (refine wpList_store_blk rfl 43 (.tmp 3) (.tmp 5) rfl w2.heap.size rfl 43 _ _ rfl hB2 hs2 HOS2.out ho2 ?_; intro w5 hR5 hg5 hs5; clear hs5)
  go_ret
  exact ⟨R, w2.heap.size, rfl, hok, hR5, hbe.grown hg5 hbe.size (fun k e => by injection e with e; have := hb.size; omega)⟩
end Go.Proofs.Ytdkgficmodcolaa
