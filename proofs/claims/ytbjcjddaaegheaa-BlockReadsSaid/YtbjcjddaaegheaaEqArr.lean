/- Two blocks compared. -/
import Derived.Test.YtbjcjddaaegheaaReadS
import Derived.Laws.StructEq
namespace Go.Proofs.Ytbjcjddaaegheaa
open Go.RowKit

theorem part_int (a : List Int) (i : Nat) (h : i < a.length) (w : World) : (part 3 (intsC a) (i * 1)).run Try.prog w = .ok (.int .i64 (a.getD i 0)) w := by
  have := intsC_at a i h
  rw [Nat.mul_one]
  simp [part, isAgg, run_underlying Try.underlying3, this, go_sem]
theorem eq_loop (a b : List Int) (d : Nat) (w : World) : ∀ (l : List Nat), (∀ i ∈ l, i < a.length ∧ i < b.length) →
    (forIn l ((none : Option Bool), ()) fun i __s => do
              let __do_lift ← part 3 (intsC a) (i * 1)
              let __do_lift_1 ← part 3 (intsC b) (i * 1)
              let __do_lift ← Op.equalIn (d + 1) 3 __do_lift __do_lift_1
              if (!__do_lift) = true then pure (ForInStep.done (some false, ())) else pure (ForInStep.yield (none, ())) : Sem (Option Bool × Unit)).run Try.prog w
      = .ok ((if (l.all fun i => a.getD i 0 == b.getD i 0) = true then none else some false), ()) w := by
  intro l
  induction l with
  | nil => intro _; simp
  | cons i l ih =>
    intro hl
    obtain ⟨h1, h2⟩ := hl i (by simp)
    simp only [List.forIn_cons, Sem.run_bind, part_int a i h1 w, part_int b i h2 w, Result.andThen_ok, run_equalIn_int w d 3 .i64 .i64 _ _ Try.underlying3]
    by_cases he : a.getD i 0 = b.getD i 0
    · have hb : (a.getD i 0 == b.getD i 0) = true := by simpa using he
      simp only [hb, Bool.not_true, Bool.false_eq_true, if_false, Sem.run_pure, Result.andThen_ok, List.all_cons, Bool.true_and]
      exact ih fun j hj => hl j (by simp [hj])
    · have hb : (a.getD i 0 == b.getD i 0) = false := by simpa using he
      simp only [hb, Bool.not_false, if_true, Sem.run_pure, Result.andThen_ok, List.all_cons, Bool.false_and, Bool.false_eq_true, if_false]
theorem all_getD (a b : List Int) (h : a.length = b.length) : ((List.range' 0 a.length).all fun i => a.getD i 0 == b.getD i 0) = (a == b) := by
  rw [Bool.eq_iff_iff]
  simp only [List.all_eq_true, List.mem_range'_1, beq_iff_eq]
  constructor
  · intro hh
    apply List.ext_getElem h
    intro i h1 h2
    have := hh i ⟨by omega, by omega⟩
    simpa [List.getD_eq_getElem?_getD, List.getElem?_eq_getElem h1, List.getElem?_eq_getElem h2] using this
  · rintro rfl i _; rfl
theorem run_equalIn33 (d : Nat) (a b : List Int) (ha : a.length = 64) (hb : b.length = 64) (w : World) : (Op.equalIn (d + 1 + 1) 33 (.agg (intsC a)) (.agg (intsC b))).run Try.prog w = .ok (a == b) w := by
  have h3 : (Try.prog.info? 3).map (·.size) = some 1 := by kernel_rfl
  obtain ⟨i3, hi3, hs3⟩ := Option.map_eq_some_iff.1 h3
  have hsz : (sizeOf 3).run Try.prog w = .ok 1 w := by simp [sizeOf, typeInfo, hi3, hs3]
  rw [Op.equalIn]
  simp only [Sem.run_bind, run_underlying Try.underlying33, Result.andThen_ok, hsz]
  rw [Std.Legacy.Range.forIn_eq_forIn_range']
  have hr : List.range' 0 64 = List.range' 0 a.length := by rw [ha]
  simp only [Std.Legacy.Range.size, Nat.sub_zero, Nat.add_sub_cancel, Nat.div_one]
  rw [hr, eq_loop a b d w _ (fun i hi => by rw [List.mem_range'_1] at hi; omega), all_getD a b (by omega)]
  simp only [Result.andThen_ok]
  by_cases h : (a == b) = true
  · simp [h]
  · simp [h]
theorem run_eql33 (a b : List Int) (ha : a.length = 64) (hb : b.length = 64) (w : World) (f : Operand → Value) (o : Oper) (x y : Operand) (ho : o.op = .binOp .eql 33 x y 33) (hx : f x = .agg (intsC a)) (hy : f y = .agg (intsC b)) :
    (execOp f o).run Try.prog w = .ok (.value (.bool (a == b))) w := by
  have hg : Try.prog.eqGuardType Try.prog.depth 33 = false := by kernel_rfl
  unfold execOp
  simp only [ho, hx, hy, Sem.run_bind, run_eqGuard_agg w .eql 33 x y _ _ hg, Result.andThen_ok, run_eql_struct, run_equalIn33 9998 a b ha hb, Sem.run_pure]
end Go.Proofs.Ytbjcjddaaegheaa
