/- The reference's Standard tables. -/
import Derived.Test.YtbjcjddaaegheaaTabC
namespace Go.Proofs.Ytbjcjddaaegheaa
open Go.RowKit

def stdC : Nat → Nat → List Nat
  | 0, 0 => [0, 1, 5, 1, 1, 1, 1, 1, 1, 0, 0, 0, 0, 0, 0, 0]
  | 0, _ => [0, 3, 1, 1, 1, 1, 1, 1, 1, 1, 1, 0, 0, 0, 0, 0]
  | _, 0 => [0, 2, 1, 3, 3, 2, 4, 3, 5, 5, 4, 4, 0, 0, 1, 125]
  | _, _ => [0, 2, 1, 2, 4, 4, 3, 4, 7, 5, 4, 4, 0, 1, 2, 119]
def stdV : Nat → Nat → List Int
  | 0, 0 => [0, 1, 2, 3, 4, 5, 6, 7, 8, 9, 10, 11]
  | 0, _ => [0, 1, 2, 3, 4, 5, 6, 7, 8, 9, 10, 11]
  | _, 0 => [1, 2, 3, 0, 4, 17, 5, 18, 33, 49, 65, 6, 19, 81, 97, 7, 34, 113, 20, 50, 129, 145, 161, 8, 35, 66, 177, 193, 21, 82, 209, 240, 36, 51, 98, 114, 130, 9, 10, 22, 23, 24, 25, 26, 37, 38, 39, 40, 41, 42, 52, 53, 54, 55, 56, 57, 58, 67, 68, 69, 70, 71, 72, 73, 74, 83, 84, 85, 86, 87, 88, 89, 90, 99, 100, 101, 102, 103, 104, 105, 106, 115, 116, 117, 118, 119, 120, 121, 122, 131, 132, 133, 134, 135, 136, 137, 138, 146, 147, 148, 149, 150, 151, 152, 153, 154, 162, 163, 164, 165, 166, 167, 168, 169, 170, 178, 179, 180, 181, 182, 183, 184, 185, 186, 194, 195, 196, 197, 198, 199, 200, 201, 202, 210, 211, 212, 213, 214, 215, 216, 217, 218, 225, 226, 227, 228, 229, 230, 231, 232, 233, 234, 241, 242, 243, 244, 245, 246, 247, 248, 249, 250]
  | _, _ => [0, 1, 2, 3, 17, 4, 5, 33, 49, 6, 18, 65, 81, 7, 97, 113, 19, 34, 50, 129, 8, 20, 66, 145, 161, 177, 193, 9, 35, 51, 82, 240, 21, 98, 114, 209, 10, 22, 36, 52, 225, 37, 241, 23, 24, 25, 26, 38, 39, 40, 41, 42, 53, 54, 55, 56, 57, 58, 67, 68, 69, 70, 71, 72, 73, 74, 83, 84, 85, 86, 87, 88, 89, 90, 99, 100, 101, 102, 103, 104, 105, 106, 115, 116, 117, 118, 119, 120, 121, 122, 130, 131, 132, 133, 134, 135, 136, 137, 138, 146, 147, 148, 149, 150, 151, 152, 153, 154, 162, 163, 164, 165, 166, 167, 168, 169, 170, 178, 179, 180, 181, 182, 183, 184, 185, 186, 194, 195, 196, 197, 198, 199, 200, 201, 202, 210, 211, 212, 213, 214, 215, 216, 217, 218, 226, 227, 228, 229, 230, 231, 232, 233, 234, 242, 243, 244, 245, 246, 247, 248, 249, 250]
def TabBack (ct vs : List Int) (W : World) (e : Ending) (w' : World) : Prop :=
  ∃ A c, e = .returned (.agg (tabCells ct (.slice A vs.length c))) ∧ Reads w' w'.heap.size 1 A vs.length (bytesV vs) ∧ Below W.heap.size W w'
theorem wpList_run {P : Program} {ops : Array Oper} {rest : List Oper} {o : Oper} {a : Act} {w : World} {Q : Exit → Act → World → Prop} (hgd : o.guard = none) (v : World → Value) (f : World → World)
    (hrun : ∀ w, (execOp a.eval o).run P w = .ok (.value (v w)) (f w)) (h : wpList P ops Q rest (a.put o.dst (v w)) (f w)) : wpList P ops Q (o :: rest) a w :=
  wpList_plain hgd fun _ hK => by
    unfold Oper.wp
    rw [hrun]
    exact hK _ _ h
theorem reads_new (w : World) (t : TypeId) (vs : List Value) : Reads (w.alloc (.cells vs.toArray t)) (w.alloc (.cells vs.toArray t)).heap.size 1 (some ⟨w.heap.size, 0, none⟩) vs.length vs := by
  refine ⟨by simp, fun _ => ⟨_, rfl, by simp, fun j u hu => ?_⟩⟩
  have := (Blk.new w t vs.toArray).cell j
  rw [show (⟨w.heap.size, 0, none⟩ : Addr).add j = ⟨w.heap.size, j, none⟩ by unfold Addr.add; split <;> simp_all, this]
  simpa using hu
theorem tab_back (ct vs : List Int) (W : World) (tc : Array Value) (htc : tabCells ct (.slice (some ⟨W.heap.size + 1, 0, none⟩) vs.length vs.length) = tc) (bs : Array Value) (hbs : (bytesV vs).toArray = bs) :
    TabBack ct vs W (.returned (.agg tc)) ((W.alloc (.cells tc 27)).alloc (.cells bs 5)) := by
  subst htc hbs
  refine ⟨_, _, rfl, ?_, ((Below.refl _ _).alloc (Nat.le_refl _) _).alloc (by simp) _⟩
  have := reads_new (W.alloc (.cells (tabCells ct (.slice (some ⟨W.heap.size + 1, 0, none⟩) vs.length vs.length)) 27)) 5 (bytesV vs)
  rw [World.size_alloc (W.alloc _), World.size_alloc W] at this
  rw [World.size_alloc (W.alloc _), World.size_alloc W]
  rw [show (bytesV vs).length = vs.length by simp [bytesV]] at this
  exact this
set_option maxRecDepth 100000 in
set_option maxHeartbeats 1000000 in
theorem std00 (part : Int) (W : World) (hp : part = 0) : Calls Try.prog 20 #[.int .i64 0, .int .i64 part] W (TabBack (natsI (stdC 0 0)) (stdV 0 0) W) := by
  have hlen : (stdV 0 0).length = 12 := by decide +kernel
  obtain ⟨bs, hbs⟩ : ∃ bs, bs = (bytesV (stdV 0 0)).toArray := ⟨_, rfl⟩
  obtain ⟨tc, htc⟩ : ∃ tc, tc = tabCells (natsI (stdC 0 0)) (.slice (some ⟨W.heap.size + 1, 0, none⟩) 12 12) := ⟨_, rfl⟩
  have hb := Lib.hid hbs
  have ht := Lib.hid htc
  have hl := Lib.hid hlen
  clear hbs htc hlen
  subst hp
  go_enter Try.func20, Try.ntmps20
  go_wp2_with (refine wpList_run (o := ⟨some 12, _, _, _, _, _⟩) rfl (fun w => .slice (some ⟨w.heap.size, 0, none⟩) 12 12) (fun w => w.alloc (.cells bs 5)) (fun w => by rw [hb.out]; kernel_rfl) ?_)
  exact bodyPost_ret (v := .agg tc) (results_cell_blk rfl _ _ W.heap.size 27 tc _ rfl (by rw [ht.out]; exact (Blk.new W 27 _).alloc _) Try.underlying27 rfl (by rw [ht.out, tabCells_size _ _ rfl]; kernel_rfl)) rfl (by rw [ht.out]; exact tab_back (natsI (stdC 0 0)) (stdV 0 0) W _ (by rw [hl.out]) bs hb.out.symm)
set_option maxRecDepth 100000 in
set_option maxHeartbeats 1000000 in
theorem std01 (part : Int) (W : World) (hp : (part == 0) = false) : Calls Try.prog 20 #[.int .i64 0, .int .i64 part] W (TabBack (natsI (stdC 0 1)) (stdV 0 1) W) := by
  have hlen : (stdV 0 1).length = 12 := by decide +kernel
  obtain ⟨bs, hbs⟩ : ∃ bs, bs = (bytesV (stdV 0 1)).toArray := ⟨_, rfl⟩
  obtain ⟨tc, htc⟩ : ∃ tc, tc = tabCells (natsI (stdC 0 1)) (.slice (some ⟨W.heap.size + 1, 0, none⟩) 12 12) := ⟨_, rfl⟩
  have hb := Lib.hid hbs
  have ht := Lib.hid htc
  have hl := Lib.hid hlen
  clear hbs htc hlen
  go_enter Try.func20, Try.ntmps20
  go_wp2_with (refine wpList_run (o := ⟨some 17, _, _, _, _, _⟩) rfl (fun w => .slice (some ⟨w.heap.size, 0, none⟩) 12 12) (fun w => w.alloc (.cells bs 5)) (fun w => by rw [hb.out]; kernel_rfl) ?_)
  exact bodyPost_ret (v := .agg tc) (results_cell_blk rfl _ _ W.heap.size 27 tc _ rfl (by rw [ht.out]; exact (Blk.new W 27 _).alloc _) Try.underlying27 rfl (by rw [ht.out, tabCells_size _ _ rfl]; kernel_rfl)) rfl (by rw [ht.out]; exact tab_back (natsI (stdC 0 1)) (stdV 0 1) W _ (by rw [hl.out]) bs hb.out.symm)
set_option maxRecDepth 100000 in
set_option maxHeartbeats 1000000 in
theorem std10 (part : Int) (W : World) (hp : part = 0) : Calls Try.prog 20 #[.int .i64 1, .int .i64 part] W (TabBack (natsI (stdC 1 0)) (stdV 1 0) W) := by
  have hlen : (stdV 1 0).length = 162 := by decide +kernel
  obtain ⟨bs, hbs⟩ : ∃ bs, bs = (bytesV (stdV 1 0)).toArray := ⟨_, rfl⟩
  obtain ⟨tc, htc⟩ : ∃ tc, tc = tabCells (natsI (stdC 1 0)) (.slice (some ⟨W.heap.size + 1, 0, none⟩) 162 162) := ⟨_, rfl⟩
  have hb := Lib.hid hbs
  have ht := Lib.hid htc
  have hl := Lib.hid hlen
  clear hbs htc hlen
  subst hp
  go_enter Try.func20, Try.ntmps20
  go_wp2_with (refine wpList_run (o := ⟨some 22, _, _, _, _, _⟩) rfl (fun w => .slice (some ⟨w.heap.size, 0, none⟩) 162 162) (fun w => w.alloc (.cells bs 5)) (fun w => by rw [hb.out]; kernel_rfl) ?_)
  exact bodyPost_ret (v := .agg tc) (results_cell_blk rfl _ _ W.heap.size 27 tc _ rfl (by rw [ht.out]; exact (Blk.new W 27 _).alloc _) Try.underlying27 rfl (by rw [ht.out, tabCells_size _ _ rfl]; kernel_rfl)) rfl (by rw [ht.out]; exact tab_back (natsI (stdC 1 0)) (stdV 1 0) W _ (by rw [hl.out]) bs hb.out.symm)
set_option maxRecDepth 100000 in
set_option maxHeartbeats 1000000 in
theorem std11 (part : Int) (W : World) (hp : (part == 0) = false) : Calls Try.prog 20 #[.int .i64 1, .int .i64 part] W (TabBack (natsI (stdC 1 1)) (stdV 1 1) W) := by
  have hlen : (stdV 1 1).length = 162 := by decide +kernel
  obtain ⟨bs, hbs⟩ : ∃ bs, bs = (bytesV (stdV 1 1)).toArray := ⟨_, rfl⟩
  obtain ⟨tc, htc⟩ : ∃ tc, tc = tabCells (natsI (stdC 1 1)) (.slice (some ⟨W.heap.size + 1, 0, none⟩) 162 162) := ⟨_, rfl⟩
  have hb := Lib.hid hbs
  have ht := Lib.hid htc
  have hl := Lib.hid hlen
  clear hbs htc hlen
  go_enter Try.func20, Try.ntmps20
  go_wp2_with (refine wpList_run (o := ⟨some 25, _, _, _, _, _⟩) rfl (fun w => .slice (some ⟨w.heap.size, 0, none⟩) 162 162) (fun w => w.alloc (.cells bs 5)) (fun w => by rw [hb.out]; kernel_rfl) ?_)
  exact bodyPost_ret (v := .agg tc) (results_cell_blk rfl _ _ W.heap.size 27 tc _ rfl (by rw [ht.out]; exact (Blk.new W 27 _).alloc _) Try.underlying27 rfl (by rw [ht.out, tabCells_size _ _ rfl]; kernel_rfl)) rfl (by rw [ht.out]; exact tab_back (natsI (stdC 1 1)) (stdV 1 1) W _ (by rw [hl.out]) bs hb.out.symm)
end Go.Proofs.Ytbjcjddaaegheaa
