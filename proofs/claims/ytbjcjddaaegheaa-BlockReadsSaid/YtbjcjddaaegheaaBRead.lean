/- block.Read. -/
import Derived.Test.YtbjcjddaaegheaaCatch
import Derived.Test.YtbjcjddaaegheaaHCodes
import Derived.Deep.RegionWith
import Derived.Deep.RegionHeld3
namespace Go.Proofs.Ytbjcjddaaegheaa
open Go.RowKit

theorem codeOf_cases (vs : List Int) (pre : List (Nat × Nat × Nat)) (v : Nat) : codeOf vs pre v = (0, 0) ∨ ∃ e ∈ pre, vs.getD e.1 0 = (v : Int) ∧ codeOf vs pre v = (e.2.1, e.2.2) := by
  unfold codeOf
  rw [← List.foldr_reverse]
  have : ∀ l : List (Nat × Nat × Nat), l.foldr (fun x f (v : Nat) => if vs.getD x.1 0 = (v : Int) then (x.2.1, x.2.2) else f v) (fun _ => (0, 0)) v = ((0, 0) : Nat × Nat) ∨ ∃ e ∈ l, vs.getD e.1 0 = (v : Int) ∧ l.foldr (fun x f (v : Nat) => if vs.getD x.1 0 = (v : Int) then (x.2.1, x.2.2) else f v) (fun _ => (0, 0)) v = (e.2.1, e.2.2) := by
    intro l
    induction l with
    | nil => exact .inl rfl
    | cons x l ih =>
      simp only [List.foldr_cons]
      by_cases h : vs.getD x.1 0 = (v : Int)
      · exact .inr ⟨x, List.mem_cons_self, h, by rw [if_pos h]⟩
      · rw [if_neg h]
        rcases ih with h1 | ⟨e, he, h1, h2⟩
        · exact .inl h1
        · exact .inr ⟨e, List.mem_cons_of_mem _ he, h1, h2⟩
  rcases this pre.reverse with h | ⟨e, he, h1, h2⟩
  · exact .inl h
  · exact .inr ⟨e, List.mem_reverse.1 he, h1, h2⟩
theorem codesF_fits (ct vs : List Int) (hct : ct.length = 16) : Fits (codesF ct vs) := by
  intro v hv
  by_cases hck : checkS ct vs = true
  · have hgood : ∀ x ∈ ct, 0 ≤ x ∧ x ≤ 255 := Classical.byContradiction fun h => by rw [checkS_bad ct vs h] at hck; cases hck
    obtain ⟨cn, rfl, hcl, hcb⟩ := natsI_of hgood
    rw [codesF_yes cn vs hck]
    rw [checkS_nat cn vs hcb, decide_eq_true_eq] at hck
    obtain ⟨_, _, _, h4⟩ := hck
    rcases codeOf_cases vs (laidC cn 0 0 0) v with h | ⟨e, he, _, h⟩
    · rw [h]; simp
    · rw [h]
      obtain ⟨m1, m2, _, _⟩ := laidC_mem he
      have := h4 e he
      have p : 2 ^ e.2.1 ≤ 2 ^ 16 := Nat.pow_le_pow_right (by omega) (by omega)
      simp only
      omega
  · rw [codesF_no ct vs (by simpa using hck)]; simp
def blockRead (bs : List Int) (at_ last : Int) (dct dvs act avs : List Int) : Option (List Int × Int) :=
  if at_ < 0 ∨ checkS dct dvs = false ∨ checkS act avs = false then none else readS bs at_ last (codesF dct dvs) (codesF act avs)
def readV : Option (List Int × Int) → Value
  | some (z, a) => .tuple #[.agg (intsC z), .int .i64 a, .bool true]
  | none => .tuple #[.agg (intsC (List.replicate 64 0)), .int .i64 0, .bool false]
theorem results_cells3 {P : Program} {fn : Func} {p q r : Tmp} {t u v : TypeId} (h : fn.results = #[.cell p t, .cell q u, .cell r v]) (tmps : Array Value) (w : World) (g g1 g2 : Nat) (T : TypeId) (cs : Array Value) (d d1 d2 : TypeDesc) (x y : Value)
    (hp : tmps.getD p undef = .pointer (some ⟨g, 0, none⟩)) (hq : tmps.getD q undef = .pointer (some ⟨g1, 0, none⟩)) (hr : tmps.getD r undef = .pointer (some ⟨g2, 0, none⟩))
    (hB : Blk w g T cs) (hu : P.underlying t = some d) (hd : d.isRow = true) (hi : (P.info? t).map (·.size) = some cs.size)
    (hx : w.cell? ⟨g1, 0, none⟩ = some x) (hu1 : P.underlying u = some d1) (hd1 : d1.isRow = false) (hy : w.cell? ⟨g2, 0, none⟩ = some y) (hu2 : P.underlying v = some d2) (hd2 : d2.isRow = false) :
    (results fn tmps).run P w = .ok (.tuple #[.agg cs, x, y]) w := by
  have hp' : tmps[p]?.getD undef = .pointer (some ⟨g, 0, none⟩) := by simpa using hp
  have hq' : tmps[q]?.getD undef = .pointer (some ⟨g1, 0, none⟩) := by simpa using hq
  have hr' : tmps[r]?.getD undef = .pointer (some ⟨g2, 0, none⟩) := by simpa using hr
  have e1 := run_loadVar_row (P := P) w g T t cs (0, 0) d hB hu (by cases d <;> simp_all [TypeDesc.isRow]) hi
  have e2 := loadVar_one (P := P) hu1 hd1 hx
  have e3 := loadVar_one (P := P) hu2 hd2 hy
  simp [results, h, hp', hq', hr', asAddr, e1, e2, e3]

/-- where Read stands: its tables, its results -/
structure Rst (W : World) (dc ac zc : Array Value) (n o : Value) (w : World) : Prop where
  d : Blk w W.heap.size 27 dc
  a : Blk w (W.heap.size + 1) 27 ac
  z : Blk w (W.heap.size + 1 + 1) 33 zc
  n : Blk w (W.heap.size + 1 + 1 + 1) 3 #[n]
  o : Blk w (W.heap.size + 1 + 1 + 1 + 1) 4 #[o]
  b : Below W.heap.size W w
theorem Rst.below {W w w' : World} {dc ac zc : Array Value} {n o : Value} (h : Rst W dc ac zc n o w) (hb : Below w.heap.size w w') : Rst W dc ac zc n o w' := by
  have := h.o.lt
  exact ⟨h.d.below hb (by omega), h.a.below hb (by omega), h.z.below hb (by omega), h.n.below hb (by omega), h.o.below hb (by omega), h.b.trans (hb.mono h.b.size)⟩
theorem Rst.start (W : World) (dc ac zc : Array Value) (n o : Value) : Rst W dc ac zc n o (((((W.alloc (.cells dc 27)).alloc (.cells ac 27)).alloc (.cells zc 33)).alloc (.cells #[n] 3)).alloc (.cells #[o] 4)) := by
  have e1 : (W.alloc (.cells dc 27)).heap.size = W.heap.size + 1 := by simp
  have e2 : ((W.alloc (.cells dc 27)).alloc (.cells ac 27)).heap.size = W.heap.size + 1 + 1 := by simp
  have e3 : (((W.alloc (.cells dc 27)).alloc (.cells ac 27)).alloc (.cells zc 33)).heap.size = W.heap.size + 1 + 1 + 1 := by simp
  have e4 : ((((W.alloc (.cells dc 27)).alloc (.cells ac 27)).alloc (.cells zc 33)).alloc (.cells #[n] 3)).heap.size = W.heap.size + 1 + 1 + 1 + 1 := by simp
  refine ⟨((((Blk.new W 27 _).alloc _).alloc _).alloc _).alloc _, ?_, ?_, ?_, ?_, ((((Below.refl _ _).alloc (Nat.le_refl _) _).alloc (by omega) _).alloc (by omega) _).alloc (by omega) _ |>.alloc (by omega) _⟩
  · have := (((Blk.new (W.alloc (.cells dc 27)) 27 ac).alloc (.cells zc 33)).alloc (.cells #[n] 3)).alloc (.cells #[o] 4)
    rwa [e1] at this
  · have := ((Blk.new ((W.alloc (.cells dc 27)).alloc (.cells ac 27)) 33 zc).alloc (.cells #[n] 3)).alloc (.cells #[o] 4)
    rwa [e2] at this
  · have := (Blk.new (((W.alloc (.cells dc 27)).alloc (.cells ac 27)).alloc (.cells zc 33)) 3 #[n]).alloc (.cells #[o] 4)
    rwa [e3] at this
  · have := (Blk.new ((((W.alloc (.cells dc 27)).alloc (.cells ac 27)).alloc (.cells zc 33)).alloc (.cells #[n] 3)) 4 #[o])
    rwa [e4] at this
theorem Rst.stored {W w w' : World} {dc ac zc zc' : Array Value} {n o : Value} (h : Rst W dc ac zc n o w) (hz : Blk w' (W.heap.size + 1 + 1) 33 zc') (hg : w.grownBy w' (some (W.heap.size + 1 + 1))) : Rst W dc ac zc' n o w' :=
  ⟨h.d.grown hg (fun e => by injection e with e; omega), h.a.grown hg (fun e => by injection e with e; omega), hz, h.n.grown hg (fun e => by injection e with e; omega), h.o.grown hg (fun e => by injection e with e; omega), h.b.grown hg h.b.size (fun k e => by injection e with e; omega)⟩
theorem Rst.grownG {W w w' : World} {dc ac zc : Array Value} {n o : Value} (h : Rst W dc ac zc n o w) {g : Nat} (hg : w.grownBy w' (some g)) (hgt : W.heap.size + 1 + 1 + 1 + 1 < g) : Rst W dc ac zc n o w' :=
  ⟨h.d.grown hg (fun e => by injection e with e; omega), h.a.grown hg (fun e => by injection e with e; omega), h.z.grown hg (fun e => by injection e with e; omega), h.n.grown hg (fun e => by injection e with e; omega), h.o.grown hg (fun e => by injection e with e; omega), h.b.grown hg h.b.size (fun k e => by injection e with e; omega)⟩
theorem acS_len {bs : List Int} {fa : Nat → Nat × Nat} {n k : Nat} {a : Int} {z z' : List Int} {a' : Int} (h : acS bs fa n k a z = some (z', a')) : z'.length = z.length := by
  induction n generalizing k a z with
  | zero => simp only [acS, Option.some.injEq, Prod.mk.injEq] at h; rw [h.1]
  | succ n ih =>
    rw [acS] at h
    split at h
    · split at h
      · cases h
      · split at h
        · simp only [Option.some.injEq, Prod.mk.injEq] at h; rw [h.1]
        · split at h
          · cases h
          · split at h
            · split at h
              · exact ih h
              · cases h
            · split at h
              · cases h
              · split at h
                · cases h
                · have := ih h; simpa using this
    · simp only [Option.some.injEq, Prod.mk.injEq] at h; rw [h.1]
theorem readS_len {bs : List Int} {at_ last : Int} {fd fa : Nat → Nat × Nat} {z : List Int} {a : Int} (h : readS bs at_ last fd fa = some (z, a)) : z.length = 64 := by
  unfold readS at h
  split at h
  · cases h
  · have := acS_len h; simpa using this
theorem Rst.setn {W w : World} {dc ac zc : Array Value} {n o : Value} (h : Rst W dc ac zc n o w) (v : Value) : Rst W dc ac zc v o (w.setCell ⟨W.heap.size + 1 + 1 + 1, 0, none⟩ v) :=
  ⟨h.d.far (by simp <;> omega) _, h.a.far (by simp <;> omega) _, h.z.far (by simp <;> omega) _, h.n.set_ 0 v, h.o.far (by simp <;> omega) _, h.b.setCell (p := ⟨W.heap.size + 1 + 1 + 1, 0, none⟩) (by simp <;> omega) _⟩
theorem Rst.seto {W w : World} {dc ac zc : Array Value} {n o : Value} (h : Rst W dc ac zc n o w) (v : Value) : Rst W dc ac zc n v (w.setCell ⟨W.heap.size + 1 + 1 + 1 + 1, 0, none⟩ v) :=
  ⟨h.d.far (by simp <;> omega) _, h.a.far (by simp <;> omega) _, h.z.far (by simp <;> omega) _, h.n.far (by simp <;> omega) _, h.o.set_ 0 v, h.b.setCell (p := ⟨W.heap.size + 1 + 1 + 1 + 1, 0, none⟩) (by simp <;> omega) _⟩
theorem Rst.drew {W w : World} {dc ac zc : Array Value} {n o : Value} (h : Rst W dc ac zc n o w) : Rst W dc ac zc n o w.drew := ⟨h.d.drew, h.a.drew, h.z.drew, h.n.drew, h.o.drew, h.b.drew⟩
theorem wpList_load_blk_want {P : Program} {w : World} {ops : Array Oper} {rest : List Oper} {o : Oper} {a : Act} {Q : Exit → Act → World → Prop} (hw : Region.wanted o (yielded ops a.tmps) = true) (ty : TypeId) (x : Operand) (ho : o.op = .load ty x)
    (g : Nat) (hx : a.eval x = .pointer (some ⟨g, 0, none⟩)) (t : TypeId) (cs : Array Value) (d : TypeDesc) (hB : Blk w g t cs)
    (hu : P.underlying ty = some d) (hd : d.isRow = true) (hi : (P.info? ty).map (·.size) = some cs.size)
    (h : wpList P ops Q rest (a.put o.dst (.agg cs)) w) : wpList P ops Q (o :: rest) a w :=
  BigFrame.wpList_want hw fun K hK => wp_load_row ty x ho g hx t cs (0, 0) d hB hu (by cases d <;> simp_all [TypeDesc.isRow]) hi (hK _ _ h)
def BPost (W : World) (R : Option (List Int × Int)) (e : Ending) (w' : World) : Prop := e = .returned (readV R) ∧ Below W.heap.size W w'
theorem Rst.results {W w : World} {dc ac : Array Value} {z : List Int} {n o : Value} (h : Rst W dc ac (intsC z) n o w) (hz : z.length = 64) (tmps : Array Value) (hp : tmps.getD 10 undef = .pointer (some ⟨W.heap.size + 1 + 1, 0, none⟩)) (hq : tmps.getD 11 undef = .pointer (some ⟨W.heap.size + 1 + 1 + 1, 0, none⟩)) (hr : tmps.getD 12 undef = .pointer (some ⟨W.heap.size + 1 + 1 + 1 + 1, 0, none⟩)) :
    (results Try.f18 tmps).run Try.prog w = .ok (.tuple #[.agg (intsC z), n, o]) w :=
  results_cells3 (P := Try.prog) (fn := Try.f18) rfl tmps w _ _ _ 33 _ _ _ _ n o hp hq hr h.z Try.underlying33 rfl (size33 z hz) (h.n.cell 0) Try.underlying3 rfl (h.o.cell 0) Try.underlying4 rfl

theorem yieldsIf_load_blk {P : Program} {ops : Array Oper} {S : World → Prop} {op : Oper} {a : Act} (hw : Region.wanted op (yielded ops a.tmps) = true) (ty : TypeId) (x : Operand) (ho : op.op = .load ty x)
    (g : Nat) (hx : a.eval x = .pointer (some ⟨g, 0, none⟩)) (t : TypeId) (cs : Array Value) (d : TypeDesc) (hS : ∀ w, S w → Blk w g t cs)
    (hu : P.underlying ty = some d) (hd : d.isRow = true) (hi : (P.info? ty).map (·.size) = some cs.size) : YieldsIf P ops S op (.agg cs) a :=
  .inl ⟨hw, fun w hw' => by
    unfold execOp
    simp only [ho, hx, Instr.loadAt, Instr.sureAddr, Sem.run_bind, Sem.run_pure, Result.andThen_ok, run_loadVar_row (P := P) w g t ty cs (0, 0) d (hS w hw') hu (by cases d <;> simp_all [TypeDesc.isRow]) hi]⟩
theorem wp_store_blk {P : Program} {w : World} {o : Oper} {a : Act} {K : Act → World → Prop} {Q : Exit → Act → World → Prop} (ty : TypeId) (x y : Operand) (ho : o.op = .store ty x y)
    (g : Nat) (hx : a.eval x = .pointer (some ⟨g, 0, none⟩)) (t : TypeId) (old cs : Array Value) (hy : a.eval y = .agg cs) (hB : Blk w g t old)
    (hi : (P.info? ty).map (·.size) = some cs.size) (hos : old.size = cs.size) (h1 : cs.all (·.oneCell') = true)
    (h : ∀ w', Blk w' g t cs → w.grownBy w' (some g) → K (a.put o.dst undef) w') : o.wp P a w K Q :=
  wp_store_row ty x y ho g cs hx hy t old hB hi hos h1 (h _ hB.setRow (grownBy_setRow w g cs))
theorem wpStill_load_blk {P : Program} {ops : Array Oper} {w : World} {Q : Act → Prop} {rest : List Oper} {op : Oper} {a : Act} (hw : Region.wanted op (yielded ops a.tmps) = true) (ty : TypeId) (x : Operand) (ho : op.op = .load ty x)
    (g : Nat) (hx : a.eval x = .pointer (some ⟨g, 0, none⟩)) (t : TypeId) (cs : Array Value) (d : TypeDesc) (hB : Blk w g t cs)
    (hu : P.underlying ty = some d) (hd : d.isRow = true) (hi : (P.info? ty).map (·.size) = some cs.size) (h : wpStill P ops w Q rest (a.put op.dst (.agg cs))) : wpStill P ops w Q (op :: rest) a :=
  wpStill_want hw fun K hK => by
    unfold Oper.still execOp
    simp only [ho, hx, Instr.loadAt, Instr.sureAddr, Sem.run_bind, Sem.run_pure, Result.andThen_ok, run_loadVar_row (P := P) w g t ty cs (0, 0) d hB hu (by cases d <;> simp_all [TypeDesc.isRow]) hi, Oper.stillUpon_value]
    exact hK _ h
theorem yieldsIf_load_cell {P : Program} {ops : Array Oper} {S : World → Prop} {op : Oper} {a : Act} (hw : Region.wanted op (yielded ops a.tmps) = true) (ty : TypeId) (x : Operand) (ho : op.op = .load ty x)
    (ad : Addr) (hx : a.eval x = .pointer (some ad)) (v : Value) (d : TypeDesc) (hS : ∀ w, S w → w.cell? ad = some v)
    (hu : P.underlying ty = some d) (hd : d.isRow = false) : YieldsIf P ops S op v a :=
  .inl ⟨hw, fun w hw' => by
    unfold execOp
    simp only [ho, hx, Instr.loadAt, Instr.sureAddr, Sem.run_bind, Sem.run_pure, Result.andThen_ok, loadVar_one (P := P) hu hd (hS w hw')]⟩
theorem getD_put (a : Act) (d : Nat) (v : Value) (i : Nat) (h : d ≠ i) : (a.put (some d) v).tmps.getD i undef = a.tmps.getD i undef := by
  simp [Act.put, h]
def doorD (W : World) : List Deferred := [{ target := .fn (.func 28) #[.pointer (some ⟨W.heap.size + 1 + 1, 0, none⟩), .pointer (some ⟨W.heap.size + 1 + 1 + 1, 0, none⟩), .pointer (some ⟨W.heap.size + 1 + 1 + 1 + 1, 0, none⟩)], args := #[] }]
/-- what is asked where Read's region panics -/
def OutP (W : World) (dc ac z0 : Array Value) (R : Option (List Int × Int)) (c : List PanicEntry) (a : Act) (w : World) : Prop :=
  c = [wrongE] ∧ R = none ∧ (∃ n o, Rst W dc ac z0 n o w) ∧ a.defers = doorD W ∧ a.tmps.getD 10 undef = .pointer (some ⟨W.heap.size + 1 + 1, 0, none⟩) ∧ a.tmps.getD 11 undef = .pointer (some ⟨W.heap.size + 1 + 1 + 1, 0, none⟩) ∧ a.tmps.getD 12 undef = .pointer (some ⟨W.heap.size + 1 + 1 + 1 + 1, 0, none⟩)
def OutQ (W : World) (dc ac z0 : Array Value) (R : Option (List Int × Int)) (K : Act → World → Prop) : Exit → Act → World → Prop
  | .normal, a, w => K a w
  | .panic c, a, w => OutP W dc ac z0 R c a w
  | _, _, _ => False
theorem OutQ.put {W : World} {dc ac z0 : Array Value} {R : Option (List Int × Int)} {K : Act → World → Prop} {d : Nat} {v : Value} (h10 : d ≠ 10) (h11 : d ≠ 11) (h12 : d ≠ 12) (c : List PanicEntry) (a : Act) (w : World) (h : OutQ W dc ac z0 R K (.panic c) (a.put (some d) v) w) : OutQ W dc ac z0 R K (.panic c) a w := by
  obtain ⟨h1, h2, h3, h4, h5, h6, h7⟩ := h
  rw [getD_put _ _ _ _ h10] at h5
  rw [getD_put _ _ _ _ h11] at h6
  rw [getD_put _ _ _ _ h12] at h7
  exact ⟨h1, h2, h3, h4, h5, h6, h7⟩
theorem door_panic {W w : World} {dc ac zc : Array Value} {n o : Value} (h : Rst W dc ac zc n o w) (hzs : zc.size = 64) (tmps : Array Value) (hp : tmps.getD 10 undef = .pointer (some ⟨W.heap.size + 1 + 1, 0, none⟩)) (hq : tmps.getD 11 undef = .pointer (some ⟨W.heap.size + 1 + 1 + 1, 0, none⟩)) (hr : tmps.getD 12 undef = .pointer (some ⟨W.heap.size + 1 + 1 + 1 + 1, 0, none⟩)) :
    Leaves Try.prog Try.f18 tmps (BPost W none) (doorD W) (.panicking [wrongE]) w := by
  refine leaves_cons (f := 28) (args := #[.pointer (some ⟨W.heap.size + 1 + 1, 0, none⟩), .pointer (some ⟨W.heap.size + 1 + 1 + 1, 0, none⟩), .pointer (some ⟨W.heap.size + 1 + 1 + 1 + 1, 0, none⟩)]) (by simp) (by simp [go_sem]) ?_
  refine (catch_panicking (W.heap.size + 1 + 1) zc n o w hzs h.z h.n h.o).mono ?_
  rintro e u' w' ⟨rfl, rfl, hz, hn, ho, hb⟩
  have h2 : Rst W dc ac (intsC (List.replicate 64 0)) (.int .i64 0) (.bool false) w' := ⟨h.d.below hb (by omega), h.a.below hb (by omega), hz, hn, ho, h.b.trans (hb.mono (by omega))⟩
  exact ⟨_, h2.results (by simp) tmps hp hq hr, rfl, h2.b⟩
theorem door_ret {W w : World} {dc ac : Array Value} {z : List Int} {a : Int} (h : Rst W dc ac (intsC z) (.int .i64 a) (.bool true) w) (hz : z.length = 64) (tmps : Array Value) (hp : tmps.getD 10 undef = .pointer (some ⟨W.heap.size + 1 + 1, 0, none⟩)) (hq : tmps.getD 11 undef = .pointer (some ⟨W.heap.size + 1 + 1 + 1, 0, none⟩)) (hr : tmps.getD 12 undef = .pointer (some ⟨W.heap.size + 1 + 1 + 1 + 1, 0, none⟩)) :
    Leaves Try.prog Try.f18 tmps (BPost W (some (z, a))) (doorD W) .returning w := by
  refine leaves_cons (f := 28) (args := #[.pointer (some ⟨W.heap.size + 1 + 1, 0, none⟩), .pointer (some ⟨W.heap.size + 1 + 1 + 1, 0, none⟩), .pointer (some ⟨W.heap.size + 1 + 1 + 1 + 1, 0, none⟩)]) (by simp) (by simp [go_sem]) ?_
  refine (catch_idle (W.heap.size + 1 + 1) w).mono ?_
  rintro e u' w' ⟨rfl, rfl, rfl⟩
  exact ⟨_, h.results hz tmps hp hq hr, rfl, h.b⟩
set_option maxRecDepth 100000 in
set_option maxHeartbeats 4000000 in
theorem bread_any (A : Option Addr) (c len : Nat) (bs : List Int) (at_ last : Int) (dct dvs act avs : List Int) (DA AA : Option Addr) (dl dcp al acp : Nat) (W : World) (hlen : bs.length = len) (hb : AreBytes bs) (hr : Reads W W.heap.size 1 A len (bytesV bs))
    (hl : len ≤ 140737488355328) (a0 : -9223372036854775808 ≤ at_) (a1 : at_ ≤ 9223372036854775807) (l0 : -9223372036854775808 ≤ last) (l1 : last ≤ 9223372036854775807)
    (hdct : dct.length = 16) (hdw : ∀ x ∈ dct, (Lit.int .i64 x).wf = true) (hdl : dvs.length = dl) (hdb : AreBytes dvs) (hdr : Reads W W.heap.size 1 DA dl (bytesV dvs)) (hdm : dl ≤ 9223372036854775807)
    (hact : act.length = 16) (haw : ∀ x ∈ act, (Lit.int .i64 x).wf = true) (hal : avs.length = al) (hab : AreBytes avs) (har : Reads W W.heap.size 1 AA al (bytesV avs)) (ham : al ≤ 9223372036854775807) :
    Calls Try.prog 18 #[.slice A len c, .int .i64 at_, .int .i64 last, .agg (tabCells dct (.slice DA dl dcp)), .agg (tabCells act (.slice AA al acp))] W (BPost W (blockRead bs at_ last dct dvs act avs)) := by
  have kd : ∀ w, Below W.heap.size W w → Calls Try.prog 27 #[.agg (tabCells dct (.slice DA dl dcp))] w fun e w' => e = .returned (.bool (checkS dct dvs)) ∧ Below w.heap.size w w' := fun w hb =>
    (callsIn_wide (n := 3)).1 (hcheck_in 3 (by omega) dct dvs DA dl dcp w hdct hdw hdl hdb ((hdr.below hb).more hb.size) hdm)
  have ka : ∀ w, Below W.heap.size W w → Calls Try.prog 27 #[.agg (tabCells act (.slice AA al acp))] w fun e w' => e = .returned (.bool (checkS act avs)) ∧ Below w.heap.size w w' := fun w hb =>
    (callsIn_wide (n := 3)).1 (hcheck_in 3 (by omega) act avs AA al acp w hact haw hal hab ((har.below hb).more hb.size) ham)
  have cd : ∀ w, Below W.heap.size W w → Calls Try.prog 30 #[.agg (tabCells dct (.slice DA dl dcp))] w fun e w' => e = .returned (.agg (codeC (codesF dct dvs))) ∧ Below w.heap.size w w' := fun w hb =>
    (callsIn_wide (n := 4)).1 (hcodes_in 4 (by omega) dct dvs DA dl dcp w hdct hdw hdl hdb ((hdr.below hb).more hb.size) hdm)
  have ca : ∀ w, Below W.heap.size W w → Calls Try.prog 30 #[.agg (tabCells act (.slice AA al acp))] w fun e w' => e = .returned (.agg (codeC (codesF act avs))) ∧ Below w.heap.size w w' := fun w hb =>
    (callsIn_wide (n := 4)).1 (hcodes_in 4 (by omega) act avs AA al acp w hact haw hal hab ((har.below hb).more hb.size) ham)
  have kr : ∀ w g, W.heap.size ≤ g → Below W.heap.size W w → Rd w g A len c at_ → Calls Try.prog 29 #[.pointer (some ⟨g, 0, none⟩), .int .i64 last, .agg (codeC (codesF dct dvs)), .agg (codeC (codesF act avs))] w (ReadPost w g A len c (readS bs at_ last (codesF dct dvs) (codesF act avs))) := fun w g hg hB hrd =>
    read_any g W.heap.size A c len bs at_ last _ _ w hlen hb hg (hr.below hB) hl a0 a1 l0 l1 hrd (codesF_fits _ _ hdct) (codesF_fits _ _ hact)
  have hsd : (Try.prog.info? 27).map (·.size) = some (tabCells dct (.slice DA dl dcp)).size := by rw [tabCells_size _ _ hdct]; kernel_rfl
  have hsa : (Try.prog.info? 27).map (·.size) = some (tabCells act (.slice AA al acp)).size := by rw [tabCells_size _ _ hact]; kernel_rfl
  obtain ⟨dc, hdc⟩ : ∃ dc, dc = tabCells dct (.slice DA dl dcp) := ⟨_, rfl⟩
  obtain ⟨ac, hac⟩ : ∃ ac, ac = tabCells act (.slice AA al acp) := ⟨_, rfl⟩
  obtain ⟨fd, hfd⟩ : ∃ fd, fd = codesF dct dvs := ⟨_, rfl⟩
  obtain ⟨fa, hfa⟩ : ∃ fa, fa = codesF act avs := ⟨_, rfl⟩
  have hR0 : blockRead bs at_ last dct dvs act avs = if at_ < 0 ∨ checkS dct dvs = false ∨ checkS act avs = false then none else readS bs at_ last fd fa := by unfold blockRead; rw [hfd, hfa]
  rw [hR0]
  obtain ⟨R, hR⟩ : ∃ R, R = readS bs at_ last fd fa := ⟨_, rfl⟩
  rw [← hdc] at kd cd hsd ⊢
  rw [← hac] at ka ca hsa ⊢
  rw [← hfd] at cd kr
  rw [← hfa] at ca kr
  have hlen64 : ∀ z a, R = some (z, a) → z.length = 64 := fun z a h => readS_len (by rw [← hR]; exact h)
  have HL64 := Lib.hid hlen64
  rw [← hR] at kr ⊢
  clear hlen64
  obtain ⟨bd, hbd⟩ : ∃ bd, bd = checkS dct dvs := ⟨_, rfl⟩
  obtain ⟨ba, hba⟩ : ∃ ba, ba = checkS act avs := ⟨_, rfl⟩
  rw [← hbd] at kd ⊢
  rw [← hba] at ka ⊢
  have KD := Lib.hid kd
  have KA := Lib.hid ka
  have CD := Lib.hid cd
  have CA := Lib.hid ca
  have KR := Lib.hid kr
  clear kd ka cd ca kr hdc hac hfd hfa hR0 hR hbd hba hdw haw hdct hact hdl hal hdb hab hdr har hlen hb hr
  have hz := zero33
  have hst := Rst.start W dc ac (intsC (List.replicate 64 0)) (.int .i64 0) (.bool false)
  have hz33 := size33 (List.replicate 64 0) (by simp)
  have hone := intsC_one (List.replicate 64 0)
  obtain ⟨z0, hz0⟩ : ∃ z0, z0 = intsC (List.replicate 64 0) := ⟨_, rfl⟩
  rw [← hz0] at hz hst hz33 hone
  have HZ0 := Lib.hid hz0
  clear hz0
  by_cases hneg : at_ < 0
  · have hif : (if at_ < 0 ∨ bd = false ∨ ba = false then (none : Option (List Int × Int)) else R) = none := if_pos (.inl hneg)
    rw [hif]
    clear hif
    have hzb := hst.z
    go_enter_defers Try.func18, Try.ntmps18
    go_wp2_with (first | (refine wpList_load_blk rfl 33 (.tmp 10) rfl (W.heap.size + 1 + 1) rfl 33 _ _ hzb Try.underlying33 rfl hz33 ?_) | (refine wpList_store_blk rfl 33 (.tmp 10) (.tmp 26) rfl (W.heap.size + 1 + 1) rfl 33 _ _ rfl hzb hz33 rfl hone ?_; intro w1 hz1 hg1 hs1; have hst1 := hst.stored hz1 hg1; have hn0 := hst1.n.cell 0; have hn1 := hst1.n.frozen 0; have ho0 := hst1.o.cell 0; have ho1 := hst1.o.frozen 0))
    have hst2 := (hst1.setn (.int .i64 0)).seto (.bool false)
    rw [HZ0.out] at hst2
    exact ⟨_, hst2.results (by simp) _ rfl rfl rfl, rfl, hst2.b⟩
  · have hneg' : decide (at_ < 0) = false := decide_eq_false hneg
    have hd0 := hst.d
    cases bd with
    | false =>
      have hif : (if at_ < 0 ∨ false = false ∨ ba = false then (none : Option (List Int × Int)) else R) = none := if_pos (.inr (.inl rfl))
      rw [hif]
      clear hif
      go_enter_defers Try.func18, Try.ntmps18
      go_wp2_with (first | (refine wpList_load_blk_want rfl 27 (.tmp 8) rfl W.heap.size rfl 27 _ _ hd0 Try.underlying27 rfl hsd ?_) | (go_at_call 27; refine (KD.out _ hst.b).mono ?_; rintro e w1 ⟨rfl, hb1⟩; have hst1 := hst.below hb1; have hzb := hst1.z; clear hb1 hst hd0) | (refine wpList_load_blk rfl 33 (.tmp 10) rfl (W.heap.size + 1 + 1) rfl 33 _ _ hzb Try.underlying33 rfl hz33 ?_) | (refine wpList_store_blk rfl 33 (.tmp 10) (.tmp 26) rfl (W.heap.size + 1 + 1) rfl 33 _ _ rfl hzb hz33 rfl hone ?_; intro w2 hz1 hg1 hs1; have hst2 := hst1.stored hz1 hg1; have hn0 := hst2.n.cell 0; have hn1 := hst2.n.frozen 0; have ho0 := hst2.o.cell 0; have ho1 := hst2.o.frozen 0))
      have hst3 := (hst2.setn (.int .i64 0)).seto (.bool false)
      rw [HZ0.out] at hst3
      exact ⟨_, hst3.results (by simp) _ rfl rfl rfl, rfl, hst3.b⟩
    | true =>
      cases ba with
      | false =>
        have hif : (if at_ < 0 ∨ true = false ∨ false = false then (none : Option (List Int × Int)) else R) = none := if_pos (.inr (.inr rfl))
        rw [hif]
        clear hif
        go_enter_defers Try.func18, Try.ntmps18
        go_wp2_with (refine wpList_load_blk_want rfl 27 (.tmp 8) rfl W.heap.size rfl 27 _ _ hd0 Try.underlying27 rfl hsd ?_)
        refine (KD.out _ hst.b).mono ?_
        rintro e w1 ⟨rfl, hb1⟩
        have hst1 := hst.below hb1
        have ha1 := hst1.a
        clear hb1 hst hd0
        go_wp2_with (refine wpList_load_blk_want rfl 27 (.tmp 9) rfl (W.heap.size + 1) rfl 27 _ _ ha1 Try.underlying27 rfl hsa ?_)
        refine (KA.out _ hst1.b).mono ?_
        rintro e w2 ⟨rfl, hb2⟩
        have hst2 := hst1.below hb2
        have hzb := hst2.z
        clear hb2 hst1 ha1
        go_wp2_with (first | (refine wpList_load_blk rfl 33 (.tmp 10) rfl (W.heap.size + 1 + 1) rfl 33 _ _ hzb Try.underlying33 rfl hz33 ?_) | (refine wpList_store_blk rfl 33 (.tmp 10) (.tmp 26) rfl (W.heap.size + 1 + 1) rfl 33 _ _ rfl hzb hz33 rfl hone ?_; intro w3 hz1 hg1 hs1; have hst3 := hst2.stored hz1 hg1; have hn0 := hst3.n.cell 0; have hn1 := hst3.n.frozen 0; have ho0 := hst3.o.cell 0; have ho1 := hst3.o.frozen 0))
        have hst4 := (hst3.setn (.int .i64 0)).seto (.bool false)
        rw [HZ0.out] at hst4
        exact ⟨_, hst4.results (by simp) _ rfl rfl rfl, rfl, hst4.b⟩
      | true =>
        have hif : (if at_ < 0 ∨ true = false ∨ true = false then (none : Option (List Int × Int)) else R) = R := if_neg (by simp; omega)
        rw [hif]
        clear hif
        have hmf : ∀ (fn : Fn) (first cap : Array Value) (w : World), (Instr.makeFunc fn first cap).run Try.prog w = .ok (.func fn first cap) w := fun _ _ _ _ => rfl
        go_enter_defers Try.func18, Try.ntmps18
        go_wp2_with (refine wpList_load_blk_want rfl 27 (.tmp 8) rfl W.heap.size rfl 27 _ _ hd0 Try.underlying27 rfl hsd ?_)
        refine (KD.out _ hst.b).mono ?_
        rintro e w1 ⟨rfl, hb1⟩
        have hst1 := hst.below hb1
        have ha1 := hst1.a
        clear hb1 hst hd0
        go_wp2_with (refine wpList_load_blk_want rfl 27 (.tmp 9) rfl (W.heap.size + 1) rfl 27 _ _ ha1 Try.underlying27 rfl hsa ?_)
        refine (KA.out _ hst1.b).mono ?_
        rintro e w2 ⟨rfl, hb2⟩
        have hst2 := hst1.below hb2
        clear hb2 hst1 ha1
        go_wp2_with fail
        rename_i K hK
        have hst3 : Rst W dc ac z0 (.int .i64 0) (.bool false) (w2.alloc (.cells #[.slice A len c, .int .i64 at_] 67)) := hst2.below ((Below.refl _ _).alloc (Nat.le_refl _) _)
        have hrd3 : Rd (w2.alloc (.cells #[.slice A len c, .int .i64 at_] 67)) w2.heap.size A len c at_ := Blk.new w2 67 _
        have hsz3 : W.heap.size ≤ w2.heap.size := hst2.b.size
        have hgo : W.heap.size + 1 + 1 + 1 + 1 < w2.heap.size := hst2.o.lt
        obtain ⟨g, hg⟩ : ∃ g, g = w2.heap.size := ⟨_, rfl⟩
        obtain ⟨w3, hw3⟩ : ∃ w3, w2.alloc (.cells #[.slice A len c, .int .i64 at_] 67) = w3 := ⟨_, rfl⟩
        rw [hw3] at hst3 hrd3 ⊢
        rw [← hg] at hrd3 hsz3 hgo ⊢
        clear hw3 hst2 hg
        refine Code.wp_mono (Q := OutQ W dc ac z0 R K) ?_ ?_
        · intro e a w h
          cases e with
          | normal => exact h
          | panic cc =>
            obtain ⟨rfl, rfl, ⟨n, o, h3⟩, h4, h5, h6, h7⟩ := h
            show Leaves _ _ _ _ _ _ _
            rw [h4]
            exact door_panic h3 (by rw [HZ0.out, intsC_size]; simp) _ h5 h6 h7
          | _ => exact h.elim
        refine wp_region_held (S := fun w => Blk w W.heap.size 27 dc ∧ Blk w (W.heap.size + 1) 27 ac) (by kernel_rfl) ?_
        have hS3 : Blk w3.drew W.heap.size 27 dc ∧ Blk w3.drew (W.heap.size + 1) 27 ac := ⟨hst3.drew.d, hst3.drew.a⟩
        have hst4 := hst3.drew
        have hrd4 : Rd w3.drew g A len c at_ := hrd3.drew
        show wpAnyH _ _ _ _ _ _ _ _ w3.drew
        refine wpAnyH_take (i := 0) (oi := ⟨some 32, _, _, _, _, _⟩) (v := .pointer (some ⟨g, 0, none⟩)) rfl (by kernel_rfl) (by kernel_rfl) (by kernel_rfl) (fun c a w h => OutQ.put (by decide) (by decide) (by decide) c a w h) (Or.inl ⟨by rfl, fun w _ => rfl⟩) hS3 ?_
        simp only [Act.put, List.setIfInBounds_toArray, List.set_cons_zero, List.set_cons_succ]
        refine wpAnyH_take (i := 1) (oi := ⟨some 33, _, _, _, _, _⟩) (v := .int .i64 last) rfl (by kernel_rfl) (by kernel_rfl) (by kernel_rfl) (fun c a w h => OutQ.put (by decide) (by decide) (by decide) c a w h) (Or.inl ⟨by rfl, fun w _ => rfl⟩) hS3 ?_
        simp only [Act.put, List.setIfInBounds_toArray, List.set_cons_zero, List.set_cons_succ]
        refine wpAnyH_take (i := 2) (oi := ⟨some 34, _, _, _, _, _⟩) (v := .agg dc) rfl (by kernel_rfl) (by kernel_rfl) (by kernel_rfl) (fun c a w h => OutQ.put (by decide) (by decide) (by decide) c a w h) (yieldsIf_load_blk (by rfl) 27 (.tmp 8) rfl W.heap.size rfl 27 dc _ (fun w h => h.1) Try.underlying27 rfl hsd) hS3 ?_
        simp only [Act.put, List.setIfInBounds_toArray, List.set_cons_zero, List.set_cons_succ]
        refine wpAnyH_take (i := 4) (oi := ⟨some 36, _, _, _, _, _⟩) (v := .agg ac) rfl (by kernel_rfl) (by kernel_rfl) (by kernel_rfl) (fun c a w h => OutQ.put (by decide) (by decide) (by decide) c a w h) (yieldsIf_load_blk (by rfl) 27 (.tmp 9) rfl (W.heap.size + 1) rfl 27 ac _ (fun w h => h.2) Try.underlying27 rfl hsa) hS3 ?_
        simp only [Act.put, List.setIfInBounds_toArray, List.set_cons_zero, List.set_cons_succ]
        generalize w3.drew = w4 at *
        refine wpAnyH_ready (rs := [3]) (by kernel_rfl) (by simp) ?_
        refine AllReadyH.cons rfl (fun K' hK' => ?_) AllReadyH.nil
        go_simp
        refine (CD.out _ hst4.b).mono ?_
        rintro e w5 ⟨rfl, hb5⟩
        have hst5 := hst4.below hb5
        have hrd5 : Rd w5 g A len c at_ := hrd4.below hb5 hrd4.lt
        refine hK'.out _ _ ⟨hst5.d, hst5.a⟩ (fun hS5 => ?_)
        clear hK' K' hst4 hrd4 hb5 hS3 w4
        refine wpAnyH_ready (rs := [5]) (by kernel_rfl) (by simp) ?_
        refine AllReadyH.cons rfl (fun K' hK' => ?_) AllReadyH.nil
        go_simp
        refine (CA.out _ hst5.b).mono ?_
        rintro e w6 ⟨rfl, hb6⟩
        have hst6 := hst5.below hb6
        have hrd6 : Rd w6 g A len c at_ := hrd5.below hb6 hrd5.lt
        refine hK'.out _ _ ⟨hst6.d, hst6.a⟩ (fun hS6 => ?_)
        clear hK' K' hst5 hrd5 hb6 hS5 w5
        refine wpAnyH_ready (rs := [6]) (by kernel_rfl) (by simp) ?_
        refine AllReadyH.cons rfl (fun K' hK' => ?_) AllReadyH.nil
        go_simp
        refine (KR.out _ g (by omega) hst6.b hrd6).mono ?_
        intro e w7 hp
        cases R with
        | none =>
          obtain ⟨rfl, hg7⟩ := hp
          exact ⟨rfl, rfl, ⟨_, _, hst6.grownG hg7 hgo⟩, rfl, rfl, rfl, rfl⟩
        | some r =>
          obtain ⟨z, a⟩ := r
          obtain ⟨rfl, hg7, hrd7⟩ := hp
          have hz64 := HL64.out z a rfl
          have hzs := size33 z hz64
          have hzo := intsC_one z
          have hst7 := hst6.grownG hg7 hgo
          have hos : z0.size = (intsC z).size := Option.some.inj (hz33.symm.trans hzs)
          refine hK'.out _ _ ⟨hst7.d, hst7.a⟩ (fun hS7 => ?_)
          clear hK' K' hst6 hrd6 hg7 hS6 w6
          refine wpAnyH_ready (rs := [7]) (by kernel_rfl) (by simp) ?_
          refine AllReadyH.cons rfl (fun K' hK' => ?_) AllReadyH.nil
          rw [if_pos (by rfl)]
          refine wp_store_blk 33 (.tmp 10) (.tmp 38) rfl (W.heap.size + 1 + 1) rfl 33 z0 (intsC z) rfl hst7.z hzs hos hzo ?_
          intro w8 hz8 hg8
          have hst8 := hst7.stored hz8 hg8
          have hrd8 : Rd w8 g A len c a := hrd7.grown hg8 (fun e => by injection e with e; omega)
          refine hK'.out _ _ ⟨hst8.d, hst8.a⟩ (fun hS8 => ?_)
          refine wpAnyH_done (by kernel_rfl) ?_ _
          refine hK _ _ ?_
          have HZ64 := Lib.hid hz64
          have HOS := Lib.hid hos
          clear hK' K' hK K hS7 hS8 hst7 hrd7 hg8 hz8 w7 hos hz64 HL64 KR CA CD KA KD hz hz33 hone
          obtain ⟨zz, hzz⟩ : ∃ zz, zz = intsC z := ⟨_, rfl⟩
          have HZZ := Lib.hid hzz
          rw [← hzz] at hst8 hzs hzo
          clear hzz
          change Code.wp _ _ _ (Act.put _ none _) w8
          simp only [Act.put]
          go_wp2_with fail
          rename_i K hK
          refine wp_region_noPanic ?_
          refine wp_region_held (S := fun w => Blk w (W.heap.size + 1 + 1) 33 zz ∧ Rd w g A len c a) (by kernel_rfl) ?_
          have hS8 : Blk w8.drew (W.heap.size + 1 + 1) 33 zz ∧ Rd w8.drew g A len c a := ⟨hst8.drew.z, hrd8.drew⟩
          have hst9 := hst8.drew
          have hrd9 : Rd w8.drew g A len c a := hrd8.drew
          show wpAnyH _ _ _ _ _ _ _ _ w8.drew
          refine wpAnyH_take (i := 0) (oi := ⟨some 39, _, _, _, _, _⟩) (v := .agg zz) rfl (by kernel_rfl) (by kernel_rfl) (by kernel_rfl) (fun c a w h => h) (yieldsIf_load_blk (by rfl) 33 (.tmp 10) rfl (W.heap.size + 1 + 1) rfl 33 zz _ (fun w h => h.1) Try.underlying33 rfl hzs) hS8 ?_
          simp only [Act.put, List.setIfInBounds_toArray, List.set_cons_zero, List.set_cons_succ]
          refine wpAnyH_take (i := 1) (oi := ⟨some 40, _, _, _, _, _⟩) (v := .pointer (some ⟨g, 0, none⟩)) rfl (by kernel_rfl) (by kernel_rfl) (by kernel_rfl) (fun c a w h => h) (Or.inl ⟨by rfl, fun w _ => rfl⟩) hS8 ?_
          simp only [Act.put, List.setIfInBounds_toArray, List.set_cons_zero, List.set_cons_succ]
          refine wpAnyH_take (i := 2) (oi := ⟨some 41, _, _, _, _, _⟩) (v := .pointer (some ⟨g, 0, none⟩)) rfl (by kernel_rfl) (by kernel_rfl) (by kernel_rfl) (fun c a w h => h) (Or.inl ⟨by rfl, fun w _ => rfl⟩) hS8 ?_
          simp only [Act.put, List.setIfInBounds_toArray, List.set_cons_zero, List.set_cons_succ]
          refine wpAnyH_take (i := 3) (oi := ⟨some 42, _, _, _, _, _⟩) (v := .pointer (some ⟨g, 1, none⟩)) rfl (by kernel_rfl) (by kernel_rfl) (by kernel_rfl) (fun c a w h => h) (Or.inl ⟨by rfl, fun w _ => by kernel_rfl⟩) hS8 ?_
          simp only [Act.put, List.setIfInBounds_toArray, List.set_cons_zero, List.set_cons_succ]
          refine wpAnyH_take (i := 4) (oi := ⟨some 43, _, _, _, _, _⟩) (v := .int .i64 a) rfl (by kernel_rfl) (by kernel_rfl) (by kernel_rfl) (fun c a w h => h) (yieldsIf_load_cell (by rfl) 3 (.tmp 42) rfl ⟨g, 1, none⟩ rfl _ _ (fun w h => h.2.cell 1) Try.underlying3 rfl) hS8 ?_
          simp only [Act.put, List.setIfInBounds_toArray, List.set_cons_zero, List.set_cons_succ]
          generalize w8.drew = w9 at *
          refine wpAnyH_ready (rs := [5]) (by kernel_rfl) (by simp) ?_
          refine AllReadyH.cons rfl (fun K' hK' => ?_) AllReadyH.nil
          rw [if_pos (by rfl)]
          refine wp_store_blk 33 (.tmp 10) (.tmp 39) rfl (W.heap.size + 1 + 1) rfl 33 zz zz rfl hst9.z hzs rfl hzo ?_
          intro w10 hz10 hg10
          have hst10 := hst9.stored hz10 hg10
          have hrd10 : Rd w10 g A len c a := hrd9.grown hg10 (fun e => by injection e with e; omega)
          refine hK'.out _ _ ⟨hst10.z, hrd10⟩ (fun hS10 => ?_)
          clear hK' K' hg10 hz10
          have hn0 := hst10.n.cell 0
          have hn1 := hst10.n.frozen 0
          have hst11 := hst10.setn (.int .i64 a)
          have ho0 := hst11.o.cell 0
          have ho1 := hst11.o.frozen 0
          have hrd11 : Rd (w10.setCell ⟨W.heap.size + 1 + 1 + 1, 0, none⟩ (.int .i64 a)) g A len c a := hrd10.far (by simp; omega) _
          have hst12 := hst11.seto (.bool true)
          have hrd12 : Rd ((w10.setCell ⟨W.heap.size + 1 + 1 + 1, 0, none⟩ (.int .i64 a)).setCell ⟨W.heap.size + 1 + 1 + 1 + 1, 0, none⟩ (.bool true)) g A len c a := hrd11.far (by simp; omega) _
          refine wpAnyH_ready (rs := [6]) (by kernel_rfl) (by simp) ?_
          refine AllReadyH.cons rfl (fun K' hK' => ?_) AllReadyH.nil
          go_simp
          refine hK'.out _ _ ⟨hst11.z, hrd11⟩ (fun hS11 => ?_)
          clear hK' K'
          refine wpAnyH_ready (rs := [7]) (by kernel_rfl) (by simp) ?_
          refine AllReadyH.cons rfl (fun K' hK' => ?_) AllReadyH.nil
          go_simp
          refine hK'.out _ _ ⟨hst12.z, hrd12⟩ (fun hS12 => ?_)
          clear hK' K'
          refine wpAnyH_done (by kernel_rfl) ?_ _
          refine hK _ _ ?_
          clear hK K
          go_wp2_with fail
          show Leaves _ _ _ _ _ _ _
          rw [HZZ.out] at hst12
          exact door_ret hst12 HZ64.out _ rfl rfl rfl
end Go.Proofs.Ytbjcjddaaegheaa
