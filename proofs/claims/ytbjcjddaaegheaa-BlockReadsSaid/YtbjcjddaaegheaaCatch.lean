/- block.Read's deferred function: where Read panics it lays nothing; else it does nothing. -/
import Derived.Test.YtbjcjddaaegheaaRead
import Derived.Defers
import Derived.Recover
import Derived.Laws.Pointers
namespace Go.Proofs.Ytbjcjddaaegheaa
open Go.RowKit

theorem wpList_ran {P : Program} {ops : Array Oper} {rest : List Oper} {o : Oper} {a : Act} {w : World} {Q : Exit → Act → World → Prop} (hgd : o.guard = none) (v : Value)
    (hrun : (execOp a.eval o).run P w = .ok (.value v) w) (h : wpList P ops Q rest (a.put o.dst v) w) : wpList P ops Q (o :: rest) a w :=
  wpList_plain hgd fun _ hK => by
    unfold Oper.wp
    rw [hrun]
    exact hK _ _ h
def Caught (b : Nat) (w : World) (e : Ending) (u' : FrameMode) (w' : World) : Prop :=
  e = .returned (.tuple #[]) ∧ u' = .panicking [{ v := .iface 64 (.agg #[]), recovered := true }] ∧ Blk w' b 33 (intsC (List.replicate 64 0)) ∧ Blk w' (b + 1) 3 #[.int .i64 0] ∧ Blk w' (b + 1 + 1) 4 #[.bool false] ∧ Below b w w'
set_option maxHeartbeats 1000000 in
theorem catch_panicking (b : Nat) (zc : Array Value) (n o : Value) (w : World) (hzs : zc.size = 64) (hz : Blk w b 33 zc) (hn : Blk w (b + 1) 3 #[n]) (ho : Blk w (b + 1 + 1) 4 #[o]) :
    CallsD Try.prog 28 #[.pointer (some ⟨b, 0, none⟩), .pointer (some ⟨b + 1, 0, none⟩), .pointer (some ⟨b + 1 + 1, 0, none⟩)] (.panicking [wrongE]) w (Caught b w) := by
  have hbld : ∀ (a : Act) (w : World), (execOp a.eval { dst := some 9, op := Op.build 33 #[], type := 33, pos := "block.go:133", after := #[], guard := none }).run Try.prog w = .ok (.value (.agg (intsC (List.replicate 64 0)))) w := fun a w => by kernel_rfl
  have hta : ∀ w, (Instr.typeAssert (.iface 64 (.agg #[])) 20 64 false).run Try.prog w = .ok (.agg #[]) w := fun w => by kernel_rfl
  have hz33 := size33 (List.replicate 64 0) (by simp)
  have hone := intsC_one (List.replicate 64 0)
  obtain ⟨z0, hz0⟩ : ∃ z0, z0 = intsC (List.replicate 64 0) := ⟨_, rfl⟩
  have hs0 : zc.size = z0.size := by rw [hz0, hzs, intsC_size]; simp
  rw [← hz0] at hbld hz33 hone
  refine callsD_of_wpS Try.func28 rfl fun c₀ cs hu => ?_
  apply wpS_seq
  apply wpS_region
  simp [wpOpsS, go_sem, recoverD, hu, wrongE, Try.ntmps28, Exit.thenS]
  refine wpS_of_wp ?_
  simp only [Array.replicate_succ, Array.replicate_zero, List.push_toArray, List.nil_append, List.cons_append]
  have HS0 := Lib.hid hs0
  have HBL := Lib.hid hbld
  have HZ0 := Lib.hid hz0
  clear hs0 hz0 hu hzs hbld
  go_wp2_with (first | (refine wpList_ran (o := ⟨some 9, _, _, _, _, _⟩) rfl _ (HBL.out _ _) ?_) | (refine wpList_store_blk rfl 33 (.tmp 0) (.tmp 9) rfl b rfl 33 _ _ rfl hz hz33 HS0.out hone ?_; intro w1 hz1 hg1 hs1; have hnc := (hn.grown hg1 (fun e => by injection e with e; omega)).cell 0; have hnf := (hn.grown hg1 (fun e => by injection e with e; omega)).frozen 0; have hoc := (ho.grown hg1 (fun e => by injection e with e; omega)).cell 0; have hof := (ho.grown hg1 (fun e => by injection e with e; omega)).frozen 0))
  refine ⟨rfl, _, rfl, _, results_none rfl _ _ _, rfl, rfl, ?_, ?_, ?_, ?_⟩
  · rw [← HZ0.out]
    exact (hz1.far (p := ⟨b + 1, 0, none⟩) (by simp) _).far (p := ⟨b + 1 + 1, 0, none⟩) (by simp; omega) _
  · exact ((hn.grown hg1 (fun e => by injection e with e; omega)).set_ 0 _).far (p := ⟨b + 1 + 1, 0, none⟩) (by simp) _
  · exact ((ho.grown hg1 (fun e => by injection e with e; omega)).far (p := ⟨b + 1, 0, none⟩) (by simp) _).set_ 0 _
  · exact (((Below.refl _ _).grown hg1 (by have := hz.lt; omega) (fun k e => by cases e; simp)).setCell (p := ⟨b + 1, 0, none⟩) (by simp) _).setCell (p := ⟨b + 1 + 1, 0, none⟩) (by simp; omega) _
set_option maxHeartbeats 1000000 in
theorem catch_idle (b : Nat) (w : World) :
    CallsD Try.prog 28 #[.pointer (some ⟨b, 0, none⟩), .pointer (some ⟨b + 1, 0, none⟩), .pointer (some ⟨b + 1 + 1, 0, none⟩)] .returning w fun e u' w' => e = .returned (.tuple #[]) ∧ u' = .returning ∧ w = w' := by
  refine callsD_of_wpS Try.func28 rfl fun c₀ cs hu => ?_
  apply wpS_seq
  apply wpS_region
  simp [wpOpsS, go_sem, recoverD, hu, Try.ntmps28, Exit.thenS]
  refine wpS_of_wp ?_
  simp only [Array.replicate_succ, Array.replicate_zero, List.push_toArray, List.nil_append, List.cons_append]
  have HU := Lib.hid hu
  clear hu
  go_wp2_with fail
  refine ⟨rfl, _, ?_, _, results_none rfl _ _ _, rfl, rfl, rfl⟩
  have := HU.out
  cases c₀
  simp_all
end Go.Proofs.Ytbjcjddaaegheaa
