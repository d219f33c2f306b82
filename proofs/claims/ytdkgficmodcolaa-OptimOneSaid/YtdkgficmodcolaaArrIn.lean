/- Whole rows loaded and stored within a fence; of no program. -/
import Derived.Test.YtdkgficmodcolaaWords
import Derived.Deep.MidRow
import Derived.OwnWalkIn
import Derived.TacticsIn
import Derived.Laws.Tables
namespace Go.Proofs.Ytdkgficmodcolaa
open Go.RowKit
section
variable {F : Fence} {n : Nat} {P : Program} {w : World} {ops : Array Oper} {rest : List Oper} {o : Oper} {a : Act} {Q : Exit → Act → World → Prop}
theorem wpListIn_load_mid (hg : o.guard = none) (ty : TypeId) (x : Operand) (ho : o.op = .load ty x)
    (b s : Nat) (hx : a.eval x = .pointer (some ⟨b, s, none⟩)) (cs : List Value) (d : TypeDesc) (hc : w.rangeAt b s cs)
    (hu : P.underlying ty = some d) (hd : d.isRow = true) (hi : (P.info? ty).map (·.size) = some cs.length)
    (h : wpListIn F n P ops Q rest (a.put o.dst (.agg cs.toArray)) w) : wpListIn F n P ops Q (o :: rest) a w := by
  refine wpListIn_plain hg fun K hK' => ?_
  unfold Oper.wpIn
  refine ⟨?_, ?_⟩
  · simp [Oper.about, ho]
  · rw [Oper.semAt_plain F _ _ (by rw [ho]; intro c hc'; cases hc')]
    simp only [execOp, ho, hx, Sem.run_bind, Sem.run_pure, run_loadAt_mid w b s ty cs d hc hu hd hi, Result.andThen_ok, Oper.uponIn_value]
    exact hK' _ _ h
theorem wpListIn_store_mid (hg : o.guard = none) (ty : TypeId) (x y : Operand) (ho : o.op = .store ty x y)
    (b s : Nat) (cells : Array Value) (hx : a.eval x = .pointer (some ⟨b, s, none⟩)) (hy : a.eval y = .agg cells)
    (ht : w.there b s cells.size) (hi : (P.info? ty).map (·.size) = some cells.size) (h1 : cells.all (·.oneCell') = true)
    (h : wpListIn F n P ops Q rest (a.put o.dst undef) (w.setCells b s cells.toList)) : wpListIn F n P ops Q (o :: rest) a w := by
  refine wpListIn_plain hg fun K hK' => ?_
  unfold Oper.wpIn
  refine ⟨?_, ?_⟩
  · simp [Oper.about, ho]
  · rw [Oper.semAt_plain F _ _ (by rw [ho]; intro c hc'; cases hc')]
    simp only [execOp, ho, hx, hy, Sem.run_bind, Sem.run_pure, run_storeAt_mid w b s ty cells ht hi h1, Result.andThen_ok, Oper.uponIn_skip]
    exact hK' _ _ h
end
theorem Blk.range {w : World} {g : Nat} {t : TypeId} {cs : Array Value} (h : Blk w g t cs) (s : Nat) (l : List Value) (hl : ∀ j v, l[j]? = some v → cs[s + j]? = some v) : w.rangeAt g s l := fun j v hv => by
  rw [h.cell]; exact hl j v hv
theorem Blk.there {w : World} {g : Nat} {t : TypeId} {cs : Array Value} (h : Blk w g t cs) (s n : Nat) (hn : s + n ≤ cs.size) : w.there g s n := fun j hj => by
  refine ⟨?_, h.frozen _⟩
  rw [h.cell, Array.getElem?_eq_getElem (by omega)]; rfl
theorem run_index_arr {P : Program} (t e : TypeId) (n : Nat) (cs : Array Value) (k : IntKind) (i : Nat) (v : Value) (h : P.underlying t = some (.array n e)) (hi : i < n) (hs : (P.info? e).map (·.size) = some 1) {k' : IntKind} (hu : P.underlying e = some (.int k')) (hv : cs[i]? = some v) (W : World) :
    (Instr.index t (.agg cs) (.int k (i : Int))).run P W = .ok v W := by
  obtain ⟨ie, hie, hsz⟩ := Option.map_eq_some_iff.1 hs
  have hn : 0 ≤ (i : Int) ∧ (i : Int) < (n : Int) := by omega
  have hs1 : (sizeOf e).run P W = .ok 1 W := by simp [sizeOf, typeInfo, hie, hsz]
  have ha : (isAgg e).run P W = .ok false W := by simp [isAgg, run_underlying hu]
  simp [Instr.index, run_underlying h, asIntOf, hn, hs1, ha, hi, Result.andThen, hv, go_sem]
theorem loadVar_one {P : Program} {t : TypeId} {w : World} {p : Addr} {v : Value} {d : TypeDesc} (hu : P.underlying t = some d) (hd : d.isRow = false) (hc : w.cell? p = some v) : (loadVar t p).run P w = .ok v w := by
  have ha : (isAgg t).run P w = .ok false w := by
    unfold isAgg
    rw [Sem.run_bind, run_underlying hu w]
    cases d <;> simp_all [TypeDesc.isRow]
  simp [loadVar, Sem.run_bind, ha, Result.andThen, hc, go_sem]
theorem results_cell_one {P : Program} {fn : Func} {p : Tmp} {ty : TypeId} (h : fn.results = #[.cell p ty]) (tmps : Array Value) (w : World) (a : Addr) (v : Value) (d : TypeDesc)
    (hp : tmps.getD p undef = .pointer (some a)) (hg : w.cell? a = some v) (hu : P.underlying ty = some d) (hd : d.isRow = false) :
    (results fn tmps).run P w = .ok v w := by
  have hp' : tmps[p]?.getD undef = .pointer (some a) := by simpa using hp
  simp [results, h, hp', asAddr, loadVar_one hu hd hg]
end Go.Proofs.Ytdkgficmodcolaa
