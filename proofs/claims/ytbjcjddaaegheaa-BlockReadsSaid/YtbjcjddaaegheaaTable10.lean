/- law10.Table: some table of sixteen numbers and some bytes. -/
import Derived.Test.YtbjcjddaaegheaaRPack
import Derived.Test.YtbjcjddaaegheaaTables
import Derived.Test.YtbjcjddaaegheaaKnown
namespace Go.Proofs.Ytbjcjddaaegheaa
open Go.RowKit

def TableBack (W : World) (e : Ending) (w' : World) : Prop := ∃ tc ct vs, e = .returned (.agg tc) ∧ GoodTab ct vs ∧ TabAt w' tc ct vs ∧ Below W.heap.size W w'
theorem wp_store_cell {P : Program} {op : Oper} {a : Act} {w : World} {K : Act → World → Prop} {Q : Exit → Act → World → Prop} (ty : TypeId) (x y : Operand) (ho : op.op = .store ty x y)
    (b o : Nat) (v : Value) (hx : a.eval x = .pointer (some ⟨b, o, none⟩)) (hy : a.eval y = v) (hc : (w.cell? ⟨b, o, none⟩).isSome = true) (hf : w.frozen? ⟨b, o, none⟩ = false)
    (hi : (P.info? ty).map (·.size) = some 1) (h1 : v.oneCell' = true) (h : K (a.put op.dst undef) (w.setCell ⟨b, o, none⟩ v)) : op.wp P a w K Q := by
  have := run_storeCells_cells (P := P) b o [v] 0 w (fun j hj => by
    obtain rfl : j = 0 := by simpa using hj
    simpa using hc) (fun j hj => by
    obtain rfl : j = 0 := by simpa using hj
    simpa using hf) (fun u hu => by simp at hu; subst hu; exact h1)
  have hcs : v.cells = #[v] := by cases v <;> first | rfl | cases h1
  have hst : (storeVar ty ⟨b, o, none⟩ v).run P w = .ok () (w.setCell ⟨b, o, none⟩ v) := by
    cases hq : P.info? ty with
    | none => simp [hq] at hi
    | some i =>
      have hs : i.size = 1 := by simpa [hq] using hi
      simp only [Nat.add_zero] at this
      simp [storeVar, sizeOf, typeInfo, hq, hcs, hs, this, World.setCells]
  unfold Oper.wp execOp
  simp only [ho, hx, hy, Instr.storeAt, Instr.sureAddr, Sem.run_bind, Sem.run_pure, Result.andThen_ok, hst]
  exact h
theorem idx22 (ad : Addr) (len c i : Nat) (hi : i < len) (w : World) : (Instr.indexAt 22 (.slice (some ad) len c) (.int .i64 i)).run Try.prog w = .ok (.pointer (some (ad.add i))) w := by
  have h1 : (Try.prog.info? 5).map (·.size) = some 1 := by kernel_rfl
  obtain ⟨ii, hi1, hsz⟩ := Option.map_eq_some_iff.1 h1
  have hn : 0 ≤ (i : Int) ∧ (i : Int) < len := by omega
  simp [Instr.indexAt, run_underlying Try.underlying22, asIntOf, hn, sizeOf, typeInfo, hi1, hsz, Result.andThen, go_sem]
  exact fun h => absurd h (by omega)
theorem tabCells_set (ct : List Int) (v : Value) (i : Nat) (n : Int) (h : i < ct.length) : (tabCells ct v).setIfInBounds i (.int .i64 n) = tabCells (ct.set i n) v := by
  simp only [tabCells, List.setIfInBounds_toArray, List.map_set]
  rw [List.set_append_left _ _ (by simpa using h)]
theorem tabCells_setv (ct : List Int) (v u : Value) (h : ct.length = 16) : (tabCells ct v).setIfInBounds 16 u = tabCells ct u := by
  simp only [tabCells, List.setIfInBounds_toArray]
  rw [List.set_append_right _ _ (by simp [h])]
  simp [h]
theorem yieldsIf_index22 {ops : Array Oper} {S : World → Prop} {op : Oper} {a : Act} (hw : Region.wanted op (yielded ops a.tmps) = true) (x ix : Operand) (ho : op.op = .indexAddr 22 x ix) (ad : Addr) (len c i : Nat) (hi : i < len)
    (hx : a.eval x = .slice (some ad) len c) (hix : a.eval ix = .int .i64 i) : YieldsIf Try.prog ops S op (.pointer (some (ad.add i))) a :=
  .inl ⟨hw, fun w _ => by
    unfold execOp
    simp only [ho, hx, hix, Sem.run_bind, idx22 ad len c i hi, Result.andThen_ok, Sem.run_pure]⟩
theorem wp_ran {P : Program} {o : Oper} {a : Act} {w : World} {K : Act → World → Prop} {Q : Exit → Act → World → Prop} {v : Value} (hrun : (execOp a.eval o).run P w = .ok (.value v) w) (h : K (a.put o.dst v) w) : o.wp P a w K Q := by
  unfold Oper.wp
  rw [hrun]
  exact h
theorem run_load_cell {P : Program} {o : Oper} {a : Act} {w : World} (ty : TypeId) (x : Operand) (ho : o.op = .load ty x) (ad : Addr) (hx : a.eval x = .pointer (some ad)) (v : Value) (d : TypeDesc) (hc : w.cell? ad = some v)
    (hu : P.underlying ty = some d) (hd : d.isRow = false) : (execOp a.eval o).run P w = .ok (.value v) w := by
  unfold execOp
  simp only [ho, hx, Instr.loadAt, Instr.sureAddr, Sem.run_bind, Sem.run_pure, Result.andThen_ok, loadVar_one (P := P) hu hd hc]
theorem wp_append1 {o : Oper} {a : Act} {w : World} {K : Act → World → Prop} {Q : Exit → Act → World → Prop} {t e : TypeId} {z u : Value} {bytes : Nat} (hI : (Try.prog.info? e).map (fun i => (i.zero, i.size, i.bytes)) = some (some z, 1, bytes)) (hz1 : z.cells.size = 1)
    (ht : Try.prog.underlying t = some (.slice e)) (s x : Operand)
    (ho : o.op = .call { callee := .builtin .append, args := #[s, x], argTypes := #[t, t] }) (base : Nat) (v : Value) (n : Nat) (xs : List Value) (hs : a.eval s = v) (hown : w.ownsRow base e 1 v n xs)
    (g : Nat) (hx : a.eval x = .slice (some ⟨g, 0, none⟩) 1 1) (hB : Blk w g e #[u]) (hu : u.oneCell' = true) (hn : (n + 1) * bytes ≤ 140737488355328) (hn2 : n + 1 ≤ 140737488355328) (hbase : base ≤ w.heap.size)
    (h : ∀ v' w', w'.ownsRow base e 1 v' (n + 1) (xs ++ [u]) → w.grownBy w' v.ownBlock → K (a.put o.dst v') w') : o.wp Try.prog a w K Q := by
  obtain ⟨i, hi, hi2⟩ := Option.map_eq_some_iff.1 hI
  simp only [Prod.mk.injEq] at hi2
  obtain ⟨hz, hsz, hby⟩ := hi2
  refine wp_append_any w s x t ho base e i z 1 bytes ht hi hz hsz hby hz1 (by decide) v n xs hs hown (g + 1) (some ⟨g, 0, none⟩) 1 1 [u] hx ⟨rfl, fun _ => ⟨_, rfl, by simp, fun j u' hu' => ?_⟩⟩ (by simpa using hu) (by simp only [maxLen]; omega) hn hbase (fun v' w' h1 h2 _ => h v' w' h1 h2)
  rw [Addr.add_mid, hB.cell, Nat.zero_add]
  simpa using hu'
structure TSt (W : World) (t0 : Array Value) (ct vs : List Int) (u : Value) (w : World) : Prop where
  r : Blk w W.heap.size 27 t0
  t : Blk w (W.heap.size + 1) 27 (tabCells ct u)
  o : w.ownsRow (W.heap.size + 2) 5 1 u vs.length (bytesV vs)
  b : Below W.heap.size W w
  len : ct.length = 16
  wf : ∀ x ∈ ct, 0 ≤ x ∧ x ≤ 1000
  by_ : AreBytes vs

structure TSb (W : World) (t0 : Array Value) (ct vs : List Int) (u : Value) (w : World) : Prop where
  r : Blk w W.heap.size 27 t0
  t : Blk w (W.heap.size + 1) 27 (tabCells ct u)
  b : Below W.heap.size W w
  len : ct.length = 16
  wf : ∀ x ∈ ct, 0 ≤ x ∧ x ≤ 1000
  by_ : AreBytes vs
section
variable {W : World} {t0 : Array Value} {ct vs : List Int} {u : Value} {w w' : World}
theorem TSt.size (h : TSt W t0 ct vs u w) : W.heap.size + 2 ≤ w.heap.size := by have := h.t.lt; omega
theorem TSb.size (h : TSb W t0 ct vs u w) : W.heap.size + 2 ≤ w.heap.size := by have := h.t.lt; omega
theorem TSt.count (h : TSt W t0 ct vs u w) (i N : Nat) (hi : i < 16) (hN : N ≤ 1000) : TSt W t0 (ct.set i N) vs u (w.setCell ⟨W.heap.size + 1, i, none⟩ (.int .i64 N)) := by
  refine ⟨h.r.far (by simp) _, ?_, ownsRow_setCell_other h.o ?_ _, h.b.setCell (by simp) _, by simp [h.len], fun x hx => ?_, h.by_⟩
  · have := h.t.set_ i (.int .i64 N)
    rwa [tabCells_set _ _ _ _ (by rw [h.len]; exact hi)] at this
  · intro e
    have := own_ge h.o _ e
    simp at this
  · rcases List.mem_or_eq_of_mem_set hx with h1 | rfl
    · exact h.wf x h1
    · omega
theorem TSt.alloc (h : TSt W t0 ct vs u w) (o : Obj) : TSt W t0 ct vs u (w.drew.alloc o) :=
  ⟨h.r.drew.alloc o, h.t.drew.alloc o, own_grown h.o.drew (World.grownBy_alloc _ _ none) (fun _ _ => by simp), h.b.drew.alloc h.b.drew.size o, h.len, h.wf, h.by_⟩
theorem TSt.grown (h : TSt W t0 ct vs u w) (hg : w.grownBy w' u.ownBlock) : TSb W t0 ct vs u w' := by
  have hb := below_own h.o hg (Nat.le_refl _) h.size
  exact ⟨h.r.below hb (by omega), h.t.below hb (by omega), h.b.trans (hb.mono (by omega)), h.len, h.wf, h.by_⟩
theorem TSt.far (h : TSt W t0 ct vs u w) (hg : w.grownBy w' u.ownBlock) (p : Addr) (hp : p.block < W.heap.size) {v : Value} (hc : w.cell? p = some v) : w'.cell? p = some v := by
  have hb := below_own h.o hg (Nat.le_refl _) h.size
  rw [hb.cell (by omega)]; exact hc
theorem TSb.put (h : TSb W t0 ct vs u w) {v' : Value} {b : Int} {n : Nat} (hown : w.ownsRow (W.heap.size + 2) 5 1 v' (n + 1) (bytesV vs ++ [.int .u8 b])) (hn : n = vs.length) (b0 : 0 ≤ b) (b1 : b ≤ 255) :
    TSt W t0 ct (vs ++ [b]) v' (w.setCell ⟨W.heap.size + 1, 16, none⟩ v') := by
  subst hn
  refine ⟨h.r.far (by simp) _, ?_, ownsRow_setCell_other (by rw [List.length_append, bytesV, List.map_append]; exact hown) ?_ _, h.b.setCell (by simp) _, h.len, h.wf, fun x hx => ?_⟩
  · have := h.t.set_ 16 v'
    rwa [tabCells_setv _ _ _ h.len] at this
  · intro e
    have := own_ge hown _ e
    simp at this
  · rcases List.mem_append.1 hx with h1 | h1
    · exact h.by_ x h1
    · obtain rfl := List.mem_singleton.1 h1
      exact ⟨b0, b1⟩
theorem TSt.swapped {g c : Nat} {b : Int} (h : TSt W t0 ct vs (.slice (some ⟨g, 0, none⟩) vs.length c) w) (hg : W.heap.size + 2 ≤ g)
    (hs : (w.setCell ⟨g, 0, none⟩ (.int .u8 b)).ownsRow (W.heap.size + 2) 5 1 (.slice (some ⟨g, 0, none⟩) vs.length c) vs.length ((bytesV vs).set 0 (.int .u8 b))) (_hn : 0 < vs.length) (b0 : 0 ≤ b) (b1 : b ≤ 255) :
    TSt W t0 ct (vs.set 0 b) (.slice (some ⟨g, 0, none⟩) vs.length c) (w.drew.setCell ⟨g, 0, none⟩ (.int .u8 b)) := by
  refine ⟨h.r.drew.far (by simp; omega) _, h.t.drew.far (by simp; omega) _, ?_, h.b.drew.setCell (by simp; omega) _, h.len, h.wf, fun x hx => ?_⟩
  · rw [List.length_set, bytesV, List.map_set]; exact hs
  · rcases List.mem_or_eq_of_mem_set hx with h1 | rfl
    · exact h.by_ x h1
    · exact ⟨b0, b1⟩
theorem TSt.fin (h : TSt W t0 ct vs u w) (w' : World) (hg : w.grownBy w' (some W.heap.size)) (hn : vs.length ≤ 100000) : TableBack W (.returned (.agg (tabCells ct u))) w' := by
  refine ⟨_, ct, vs, rfl, ⟨h.len, fun x hx => ?_, h.by_, by omega⟩, ?_, h.b.grown hg h.b.size (fun k e => by cases e; exact Nat.le_refl _)⟩
  · have := h.wf x hx
    exact Go.WalkArith.wf_i64 (by omega)
  · have ho := own_grown h.o hg (fun g e e2 => by injection e2 with e2; have := own_ge h.o g e; omega)
    obtain ⟨A, c, rfl, hr⟩ := own_form ho
    exact ⟨A, c, rfl, hr⟩
theorem tabCells_one (ct : List Int) (v : Value) (hv : v.oneCell' = true) : (tabCells ct v).all (·.oneCell') = true := by
  refine all_one_of fun i u hu => ?_
  simp only [tabCells, List.getElem?_toArray, List.getElem?_append] at hu
  split at hu
  · rw [List.getElem?_map] at hu
    obtain ⟨x, _, rfl⟩ := Option.map_eq_some_iff.1 hu
    rfl
  · rw [List.getElem?_singleton] at hu
    split at hu
    · cases hu; exact hv
    · cases hu
end
end Go.Proofs.Ytbjcjddaaegheaa
namespace Go.Proofs.Ytbjcjddaaegheaa
open Go.RowKit
set_option maxRecDepth 100000 in
set_option maxHeartbeats 40000000 in
theorem table10_any (A : Option Addr) (c len : Nat) (bs : List Int) (W : World) (hlen : bs.length = len) (hb : AreBytes bs) (hr : Reads W W.heap.size 1 A len (bytesV bs)) (hl : len ≤ 9223372036854775807) :
    Calls Try.prog 10 #[.slice A len c] W (TableBack W) := by
  have hz27 := zero27
  have hs0 : (tabCells (List.replicate 16 0) (.slice none 0 0)).size = 17 := tabCells_size _ _ rfl
  have hone : (tabCells (List.replicate 16 0) (.slice none 0 0)).all (·.oneCell') = true := by kernel_rfl
  have hbl : ∀ (a : Act) (w : World) (o : Oper), o.op = .build 27 #[] → (execOp a.eval o).run Try.prog w = .ok (.value (.agg (tabCells (List.replicate 16 0) (.slice none 0 0)))) w := fun a w o ho => by unfold execOp; simp only [ho]; show _ = _; kernel_rfl
  have sz0 : (Try.prog.info? 27).map (·.size) = some (tabCells (List.replicate 16 0) (.slice none 0 0)).size := size27 hs0
  obtain ⟨t0, ht0⟩ : ∃ t0, t0 = tabCells (List.replicate 16 0) (.slice none 0 0) := ⟨_, rfl⟩
  rw [← ht0] at hz27 hs0 hone hbl sz0
  have HBL := Lib.hid hbl
  have HS0 := Lib.hid hs0
  have hB0 := (Blk.new W 27 t0).alloc (.cells t0 27)
  have hB1 := Blk.new (W.alloc (.cells t0 27)) 27 t0
  rw [World.size_alloc] at hB1
  have hbe : Below W.heap.size W ((W.alloc (.cells t0 27)).alloc (.cells t0 27)) := ((Below.refl _ _).alloc (Nat.le_refl _) _).alloc (by simp) _
  have HT0 := Lib.hid ht0
  clear ht0 hbl hs0
  go_enter Try.func10, Try.ntmps10
  go_wp2_with (first | (refine wpList_ran_want rfl _ (HBL.out _ _ _ rfl) ?_) | (refine wpList_store_blk rfl 27 (.tmp 3) (.tmp 9) rfl (W.heap.size + 1) rfl 27 t0 t0 rfl hB1 sz0 rfl hone ?_; intro w1 hT1 hg1 hs1; clear hs1))
  have hR1 := hB0.grown hg1 (fun e => by injection e with e; omega)
  have hbe1 := hbe.grown hg1 (by simp; omega) (fun k e => by cases e; omega)
  clear hB0 hB1 hbe hg1
  go_loopw [4, 5, 6] (fun v4 v5 v6 (w : World) => ∃ (i : Nat) (left : Int) (ct vs : List Int) (u : Value), i ≤ 16 ∧ v6 = .int .i64 i ∧ v5 = .int .i64 vs.length ∧ v4 = .int .i64 left ∧ TSt W t0 ct vs u w ∧ vs.length ≤ 127 * i ∧ left % 2 = 0 ∧ left ≤ 300 ∧ -(300 * 2 ^ i) + 254 ≤ left) (fun _ _ v6 _ => 16 - (intOf v6).toNat)
  case atStart => exact ⟨0, 2, List.replicate 16 0, [], .slice none 0 0, by omega, rfl, rfl, rfl, ⟨hR1, by rw [← HT0.out]; exact hT1, World.ownsRow_nil _ _ _ _, hbe1, rfl, (fun x hx => by rw [List.mem_replicate] at hx; omega), (fun x hx => by cases hx)⟩, by simp, by omega, by omega, by omega⟩
  case round =>
    clear hT1 hR1 hbe1
    obtain ⟨i, left, ct, vs, u, hi, rfl, rfl, rfl, hst, hvl, hl2, hl3, hl4⟩ := hrel
    by_cases hin : i < 16 ∧ i < len
    · obtain ⟨h16, hlt⟩ := hin
      obtain ⟨ad, x, rfl, hadb, hx, hc⟩ := (hr.below hst.b).at_ hlt
      have hx' : bs[i]? = some (bs.getD i 0) := by rw [List.getD_eq_getElem?_getD, List.getElem?_eq_getElem (by omega)]; rfl
      obtain rfl : x = .int .u8 (bs.getD i 0) := by
        rw [bytesV, List.getElem?_map, hx'] at hx; simpa using hx.symm
      obtain ⟨g0, g1⟩ := getD_bd hb i
      generalize bs.getD i 0 = y at *
      clear hx hx'
      have hp16 := pow_le_int i 16 hi
      have hp := pow_pos_int i
      simp only [Int.reducePow] at hp16
      have hlb : -20000000 ≤ left := by omega
      obtain ⟨q, hq⟩ : ∃ q, q = left + 1 := ⟨_, rfl⟩
      have hq0 : (q == 0) = false := by simp; omega
      have hqz : q ≠ 0 := by omega
      obtain ⟨m, hm⟩ : ∃ m, m = Int.tmod y q := ⟨_, rfl⟩
      have hm0 : 0 ≤ m := by rw [hm]; exact Int.tmod_nonneg _ g0
      have hm1 : m ≤ 255 := by
        rw [hm]
        have hle : ∀ p : Int, 0 ≤ p → y % p ≤ y := fun p h => by
          have := Int.mul_ediv_add_emod y p
          have h2 := Int.mul_nonneg h (Int.ediv_nonneg g0 h)
          omega
        rcases Int.le_total 0 q with h | h
        · rw [Int.tmod_eq_emod_of_nonneg g0]
          have := hle q h
          omega
        · rw [← Int.tmod_neg, Int.tmod_eq_emod_of_nonneg g0]
          have := hle (-q) (by omega)
          omega
      have hm' : y.tmod (left + 1) = m := by rw [hm, hq]
      have hq0' : (left + 1 == 0) = false := by rw [← hq]; exact hq0
      have hqz' : left + 1 ≠ 0 := by rw [← hq]; exact hqz
      clear hm hq hq0 hqz
      have hadB : ad.block < W.heap.size := hadb
      have hci : wr.cell? ⟨W.heap.size + 1, i, none⟩ = some (.int .i64 (ct.getD i 0)) := by rw [hst.t.cell]; exact tabCells_at _ _ _ (by rw [hst.len]; exact h16)
      have hfi := hst.t.frozen i
      by_cases hy : y ≤ 250
      · go_wp2_with fail
        obtain ⟨N, hN⟩ : ∃ N : Nat, (N : Int) = m / 2 := ⟨(m / 2).toNat, by omega⟩
        rw [← hN]
        have hN1 : N ≤ 127 := by omega
        have hp1 : (2 : Int) ^ (i + 1) = 2 * 2 ^ i := by rw [Int.pow_succ]; omega
        obtain ⟨L, hL⟩ : ∃ L, L = min (2 * (left - (N : Int))) 300 := ⟨_, rfl⟩
        rw [← hL]
        have hL2 : L % 2 = 0 := by omega
        have hL3 : L ≤ 300 := by omega
        have hL4 : -(300 * 2 ^ (i + 1)) + 254 ≤ L := by omega
        clear hN hL hp1
        have hst2 := hst.count i N h16 (by omega)
        generalize wr.setCell ⟨W.heap.size + 1, i, none⟩ (.int .i64 N) = w2 at *
        generalize ct.set i N = ct2 at *
        clear hst hc hci hfi
        go_loopw [5, 8] (fun v5 v8 (w : World) => ∃ (k : Nat) (vs' : List Int) (u' : Value), k ≤ N ∧ v8 = .int .i64 k ∧ v5 = .int .i64 vs'.length ∧ vs'.length = vs.length + k ∧ TSt W t0 ct2 vs' u' w) (fun _ v8 _ => N - (intOf v8).toNat)
        case atStart => exact ⟨0, vs, u, by omega, rfl, rfl, by omega, hst2⟩
        case round =>
          clear hst2
          obtain ⟨k, vs', u', hk, rfl, rfl, hvk, hst⟩ := hrel
          by_cases hkn : k < N
          · obtain ⟨A', c', rfl, _⟩ := own_form hst.o
            obtain ⟨ad0, x0, hA, _, hx0, hc0⟩ := (hr.below hst.b).at_ (k := 0) (by omega)
            obtain rfl : ad = ad0 := by injection hA
            have hx0' : bs[0]? = some (bs.getD 0 0) := by rw [List.getD_eq_getElem?_getD, List.getElem?_eq_getElem (by omega)]; rfl
            obtain rfl : x0 = .int .u8 (bs.getD 0 0) := by
              rw [bytesV, List.getElem?_map, hx0'] at hx0; simpa using hx0.symm
            obtain ⟨f0, f1⟩ := getD_bd hb 0
            generalize bs.getD 0 0 = y0 at *
            clear hA hx0 hx0'
            have hlen0 : 0 < len := by omega
            have hcv : wr.cell? ⟨W.heap.size + 1, 16, none⟩ = some (.slice A' vs'.length c') := by rw [hst.t.cell]; exact tabCells_last _ _ hst.len
            obtain ⟨q, hq⟩ : ∃ q, q = vs'.length := ⟨_, rfl⟩
            have hq2 : q ≤ 5000 := by omega
            rw [← hq] at hcv ⊢
            obtain ⟨bb, hbb⟩ : ∃ bb, bb = IntKind.u8.wrap (IntKind.i64.wrap (IntKind.i64.wrap ((q : Int) * 37) + IntKind.i64.wrap y0)) := ⟨_, rfl⟩
            have hbb2 : 0 ≤ bb ∧ bb ≤ 255 := by rw [hbb, IntKind.wrap_u8']; omega
            go_wp2_with fail
            rename_i K hK
            have hA1 : Below wr.heap.size wr wr.drew := (Below.refl _ _).drew
            refine wp_region_noPanic ?_
            refine wp_region_held (S := fun w => w.cell? (ad.add 0) = some (.int .u8 y0)) (by kernel_rfl) ?_
            show wpAnyH _ _ _ _ _ _ _ _ wr.drew
            have hcd : wr.drew.cell? (ad.add 0) = some (.int .u8 y0) := hc0
            refine wpAnyH_take (i := 0) (oi := ⟨some 54, _, _, _, _, _⟩) (v := .pointer (some ⟨W.heap.size + 1, 16, none⟩)) rfl (by kernel_rfl) (by kernel_rfl) (by kernel_rfl) (fun c a w h => h) (Or.inl ⟨by rfl, fun w _ => rfl⟩) hcd ?_
            simp only [Act.put, List.setIfInBounds_toArray, List.set_cons_zero, List.set_cons_succ]
            refine wpAnyH_take (i := 2) (oi := ⟨some 56, _, _, _, _, _⟩) (v := .int .i64 q) rfl (by kernel_rfl) (by kernel_rfl) (by kernel_rfl) (fun c a w h => h) (Or.inl ⟨by rfl, fun w _ => rfl⟩) hcd ?_
            simp only [Act.put, List.setIfInBounds_toArray, List.set_cons_zero, List.set_cons_succ]
            refine wpAnyH_take (i := 3) (oi := ⟨some 57, _, _, _, _, _⟩) (v := .int .i64 (IntKind.i64.wrap ((q : Int) * 37))) rfl (by kernel_rfl) (by kernel_rfl) (by kernel_rfl) (fun c a w h => h) (Or.inl ⟨by rfl, fun w _ => rfl⟩) hcd ?_
            simp only [Act.put, List.setIfInBounds_toArray, List.set_cons_zero, List.set_cons_succ]
            refine wpAnyH_take (i := 4) (oi := ⟨some 58, _, _, _, _, _⟩) (v := .slice (some ad) len c) rfl (by kernel_rfl) (by kernel_rfl) (by kernel_rfl) (fun c a w h => h) (Or.inl ⟨by rfl, fun w _ => rfl⟩) hcd ?_
            simp only [Act.put, List.setIfInBounds_toArray, List.set_cons_zero, List.set_cons_succ]
            refine wpAnyH_take (i := 5) (oi := ⟨some 59, _, _, _, _, _⟩) (v := .pointer (some (ad.add 0))) rfl (by kernel_rfl) (by kernel_rfl) (by kernel_rfl) (fun c a w h => h) (yieldsIf_index22 (by rfl) (.tmp 58) (.const (.int .i64 0)) rfl ad len c 0 hlen0 rfl rfl) hcd ?_
            simp only [Act.put, List.setIfInBounds_toArray, List.set_cons_zero, List.set_cons_succ]
            refine wpAnyH_take (i := 6) (oi := ⟨some 60, _, _, _, _, _⟩) (v := .int .u8 y0) rfl (by kernel_rfl) (by kernel_rfl) (by kernel_rfl) (fun c a w h => h) (yieldsIf_load_cell (by rfl) 5 (.tmp 59) rfl (ad.add 0) rfl _ _ (fun w h => h) Try.underlying5 rfl) hcd ?_
            simp only [Act.put, List.setIfInBounds_toArray, List.set_cons_zero, List.set_cons_succ]
            refine wpAnyH_take (i := 7) (oi := ⟨some 61, _, _, _, _, _⟩) (v := .int .i64 (IntKind.i64.wrap y0)) rfl (by kernel_rfl) (by kernel_rfl) (by kernel_rfl) (fun c a w h => h) (Or.inl ⟨by rfl, fun w _ => rfl⟩) hcd ?_
            simp only [Act.put, List.setIfInBounds_toArray, List.set_cons_zero, List.set_cons_succ]
            refine wpAnyH_take (i := 8) (oi := ⟨some 62, _, _, _, _, _⟩) (v := .int .i64 (IntKind.i64.wrap (IntKind.i64.wrap ((q : Int) * 37) + IntKind.i64.wrap y0))) rfl (by kernel_rfl) (by kernel_rfl) (by kernel_rfl) (fun c a w h => h) (Or.inl ⟨by rfl, fun w _ => rfl⟩) hcd ?_
            simp only [Act.put, List.setIfInBounds_toArray, List.set_cons_zero, List.set_cons_succ]
            refine wpAnyH_take (i := 9) (oi := ⟨some 63, _, _, _, _, _⟩) (v := .int .u8 (IntKind.u8.wrap (IntKind.i64.wrap (IntKind.i64.wrap ((q : Int) * 37) + IntKind.i64.wrap y0)))) rfl (by kernel_rfl) (by kernel_rfl) (by kernel_rfl) (fun c a w h => h) (Or.inl ⟨by rfl, fun w _ => rfl⟩) hcd ?_
            simp only [Act.put, List.setIfInBounds_toArray, List.set_cons_zero, List.set_cons_succ]
            rw [← hbb]
            have hst3 := hst.alloc (.cells #[.int .u8 bb] 5)
            have hn3 := Blk.new wr.drew 5 #[.int .u8 bb]
            have hcd3 : (wr.drew.alloc (.cells #[.int .u8 bb] 5)).cell? (ad.add 0) = some (.int .u8 y0) := by rw [World.cell?_alloc_lt _ _ _ (World.block_lt_of_cell? _ _ hcd)]; exact hcd
            have hcv3 : (wr.drew.alloc (.cells #[.int .u8 bb] 5)).cell? ⟨W.heap.size + 1, 16, none⟩ = some (.slice A' q c') := by rw [hst3.t.cell, hq]; exact tabCells_last _ _ hst3.len
            obtain ⟨w3, hw3⟩ : ∃ w3, w3 = wr.drew.alloc (.cells #[.int .u8 bb] 5) := ⟨_, rfl⟩
            rw [← hw3] at hst3 hn3 hcd3 hcv3
            have hcdr : wr.drew.cell? ⟨W.heap.size + 1, 16, none⟩ = some (.slice A' q c') := hcv
            refine wpAnyH_ready (rs := [1, 10]) (by kernel_rfl) (by simp) ?_
            refine AllReadyH.cons rfl (fun K' hK' => ?_) (AllReadyH.cons rfl (fun K' hK' => ?_) AllReadyH.nil)
            · have _h := True.intro
              rw [if_pos (by rfl)]
              refine wp_ran (run_load_cell 22 (.tmp 54) rfl ⟨W.heap.size + 1, 16, none⟩ rfl (.slice A' q c') _ hcdr Try.underlying22 rfl) ?_
              refine hK'.out _ _ hcd (fun hS5 => ?_)
              clear hK' K' hS5
              simp only [Act.put, List.setIfInBounds_toArray]
              refine wpAnyH_ready (rs := [10]) (by kernel_rfl) (by simp) ?_
              refine AllReadyH.cons rfl (fun K' hK' => ?_) AllReadyH.nil
              rw [if_pos (by rfl)]
              refine wp_bslice 22 5 1 _ rfl Try.underlying22 #[.int .u8 bb] (by kernel_rfl) ?_
              rw [← hw3]
              refine hK'.out _ _ hcd3 (fun hS5 => ?_)
              clear hK' K' hS5
              simp only [Act.put]
              refine wpAnyH_ready (rs := [11]) (by kernel_rfl) (by simp) ?_
              refine AllReadyH.cons rfl (fun K' hK' => ?_) AllReadyH.nil
              rw [if_pos (by rfl)]
              refine wp_append1 info5 rfl Try.underlying22 (.tmp 55) (.tmp 64) rfl (W.heap.size + 2) (.slice A' q c') q (bytesV vs') rfl (hq ▸ hst3.o) wr.drew.heap.size rfl hn3 rfl (by omega) (by omega) hst3.size ?_
              intro v8 w8 hown8 hg8
              have hg8' : w3.grownBy w8 (Value.slice A' vs'.length c').ownBlock := by rw [← hq]; exact hg8
              have hst8 := hst3.grown hg8'
              have hcd8 := hst3.far hg8' (ad.add 0) (by rw [block_of_add]; exact hadB) hcd3
              refine hK'.out _ _ hcd8 (fun hS5 => ?_)
              clear hK' K' hS5
              simp only [Act.put]
              refine wpAnyH_take (i := 12) (oi := ⟨some 66, _, _, _, _, _⟩) (v := .pointer (some ⟨W.heap.size + 1, 16, none⟩)) rfl (by kernel_rfl) (by kernel_rfl) (by kernel_rfl) (fun c a w h => h) (Or.inl ⟨by rfl, fun w _ => rfl⟩) hcd8 ?_
              simp only [Act.put]
              refine wpAnyH_ready (rs := [13]) (by kernel_rfl) (by simp) ?_
              refine AllReadyH.cons rfl (fun K' hK' => ?_) AllReadyH.nil
              rw [if_pos (by rfl)]
              refine wp_store_cell 22 (.tmp 66) (.tmp 65) rfl (W.heap.size + 1) 16 v8 rfl rfl (by rw [hst8.t.cell]; rw [tabCells_last _ _ hst8.len]; rfl) (hst8.t.frozen 16) (by kernel_rfl) (own_one hown8) ?_
              have hst9 := hst8.put hown8 hq hbb2.1 hbb2.2
              refine hK'.out _ _ (by rw [World.cell?_setCell_far _ _ _ _ (by rw [block_of_add]; exact fun e => absurd hadB (by rw [← e]; simp))]; exact hcd8) (fun hS5 => ?_)
              clear hK' K' hS5
              refine wpAnyH_done (by kernel_rfl) ?_ _
              refine hK _ _ ?_
              simp only [Act.put]
              clear hK K hst8 hst3 hn3 hcd3 hcv3 hcd8 hcd hcdr hw3 hbb
              go_wp2_with fail
              go_roundw
              case rel => exact ⟨k + 1, vs' ++ [bb], v8, by omega, by go_num, by simp; omega, by simp; omega, hst9⟩
              case measure => simp [intOf]; omega
            · have _h := True.intro
              rw [if_pos (by rfl)]
              refine wp_bslice 22 5 1 _ rfl Try.underlying22 #[.int .u8 bb] (by kernel_rfl) ?_
              rw [← hw3]
              refine hK'.out _ _ hcd3 (fun hS5 => ?_)
              clear hK' K' hS5
              simp only [Act.put, List.setIfInBounds_toArray]
              refine wpAnyH_ready (rs := [1]) (by kernel_rfl) (by simp) ?_
              refine AllReadyH.cons rfl (fun K' hK' => ?_) AllReadyH.nil
              rw [if_pos (by rfl)]
              refine wp_ran (run_load_cell 22 (.tmp 54) rfl ⟨W.heap.size + 1, 16, none⟩ rfl (.slice A' q c') _ hcv3 Try.underlying22 rfl) ?_
              refine hK'.out _ _ hcd3 (fun hS5 => ?_)
              clear hK' K' hS5
              simp only [Act.put]
              refine wpAnyH_ready (rs := [11]) (by kernel_rfl) (by simp) ?_
              refine AllReadyH.cons rfl (fun K' hK' => ?_) AllReadyH.nil
              rw [if_pos (by rfl)]
              refine wp_append1 info5 rfl Try.underlying22 (.tmp 55) (.tmp 64) rfl (W.heap.size + 2) (.slice A' q c') q (bytesV vs') rfl (hq ▸ hst3.o) wr.drew.heap.size rfl hn3 rfl (by omega) (by omega) hst3.size ?_
              intro v8 w8 hown8 hg8
              have hg8' : w3.grownBy w8 (Value.slice A' vs'.length c').ownBlock := by rw [← hq]; exact hg8
              have hst8 := hst3.grown hg8'
              have hcd8 := hst3.far hg8' (ad.add 0) (by rw [block_of_add]; exact hadB) hcd3
              refine hK'.out _ _ hcd8 (fun hS5 => ?_)
              clear hK' K' hS5
              simp only [Act.put]
              refine wpAnyH_take (i := 12) (oi := ⟨some 66, _, _, _, _, _⟩) (v := .pointer (some ⟨W.heap.size + 1, 16, none⟩)) rfl (by kernel_rfl) (by kernel_rfl) (by kernel_rfl) (fun c a w h => h) (Or.inl ⟨by rfl, fun w _ => rfl⟩) hcd8 ?_
              simp only [Act.put]
              refine wpAnyH_ready (rs := [13]) (by kernel_rfl) (by simp) ?_
              refine AllReadyH.cons rfl (fun K' hK' => ?_) AllReadyH.nil
              rw [if_pos (by rfl)]
              refine wp_store_cell 22 (.tmp 66) (.tmp 65) rfl (W.heap.size + 1) 16 v8 rfl rfl (by rw [hst8.t.cell]; rw [tabCells_last _ _ hst8.len]; rfl) (hst8.t.frozen 16) (by kernel_rfl) (own_one hown8) ?_
              have hst9 := hst8.put hown8 hq hbb2.1 hbb2.2
              refine hK'.out _ _ (by rw [World.cell?_setCell_far _ _ _ _ (by rw [block_of_add]; exact fun e => absurd hadB (by rw [← e]; simp))]; exact hcd8) (fun hS5 => ?_)
              clear hK' K' hS5
              refine wpAnyH_done (by kernel_rfl) ?_ _
              refine hK _ _ ?_
              simp only [Act.put]
              clear hK K hst8 hst3 hn3 hcd3 hcv3 hcd8 hcd hcdr hw3 hbb
              go_wp2_with fail
              go_roundw
              case rel => exact ⟨k + 1, vs' ++ [bb], v8, by omega, by go_num, by simp; omega, by simp; omega, hst9⟩
              case measure => simp [intOf]; omega
          · obtain rfl : k = N := by omega
            go_wp2_with fail
            go_roundw
            case rel => exact ⟨i + 1, L, ct2, vs', u', by omega, by go_num, rfl, rfl, hst, by omega, hL2, hL3, hL4⟩
            case measure => simp [intOf]; omega
      · have hy2 : 250 < y := by omega
        go_wp2_with fail
        obtain ⟨N, hN⟩ : ∃ N : Nat, (N : Int) = y % 16 := ⟨(y % 16).toNat, by omega⟩
        rw [← hN]
        have hN1 : N ≤ 127 := by omega
        have hp1 : (2 : Int) ^ (i + 1) = 2 * 2 ^ i := by rw [Int.pow_succ]; omega
        obtain ⟨L, hL⟩ : ∃ L, L = min (2 * (left - (N : Int))) 300 := ⟨_, rfl⟩
        rw [← hL]
        have hL2 : L % 2 = 0 := by omega
        have hL3 : L ≤ 300 := by omega
        have hL4 : -(300 * 2 ^ (i + 1)) + 254 ≤ L := by omega
        clear hN hL hp1
        have hst2 := hst.count i N h16 (by omega)
        generalize wr.setCell ⟨W.heap.size + 1, i, none⟩ (.int .i64 N) = w2 at *
        generalize ct.set i N = ct2 at *
        clear hst hc hci hfi
        go_loopw [5, 8] (fun v5 v8 (w : World) => ∃ (k : Nat) (vs' : List Int) (u' : Value), k ≤ N ∧ v8 = .int .i64 k ∧ v5 = .int .i64 vs'.length ∧ vs'.length = vs.length + k ∧ TSt W t0 ct2 vs' u' w) (fun _ v8 _ => N - (intOf v8).toNat)
        case atStart => exact ⟨0, vs, u, by omega, rfl, rfl, by omega, hst2⟩
        case round =>
          clear hst2
          obtain ⟨k, vs', u', hk, rfl, rfl, hvk, hst⟩ := hrel
          by_cases hkn : k < N
          · obtain ⟨A', c', rfl, _⟩ := own_form hst.o
            obtain ⟨ad0, x0, hA, _, hx0, hc0⟩ := (hr.below hst.b).at_ (k := 0) (by omega)
            obtain rfl : ad = ad0 := by injection hA
            have hx0' : bs[0]? = some (bs.getD 0 0) := by rw [List.getD_eq_getElem?_getD, List.getElem?_eq_getElem (by omega)]; rfl
            obtain rfl : x0 = .int .u8 (bs.getD 0 0) := by
              rw [bytesV, List.getElem?_map, hx0'] at hx0; simpa using hx0.symm
            obtain ⟨f0, f1⟩ := getD_bd hb 0
            generalize bs.getD 0 0 = y0 at *
            clear hA hx0 hx0'
            have hlen0 : 0 < len := by omega
            have hcv : wr.cell? ⟨W.heap.size + 1, 16, none⟩ = some (.slice A' vs'.length c') := by rw [hst.t.cell]; exact tabCells_last _ _ hst.len
            obtain ⟨q, hq⟩ : ∃ q, q = vs'.length := ⟨_, rfl⟩
            have hq2 : q ≤ 5000 := by omega
            rw [← hq] at hcv ⊢
            obtain ⟨bb, hbb⟩ : ∃ bb, bb = IntKind.u8.wrap (IntKind.i64.wrap (IntKind.i64.wrap ((q : Int) * 37) + IntKind.i64.wrap y0)) := ⟨_, rfl⟩
            have hbb2 : 0 ≤ bb ∧ bb ≤ 255 := by rw [hbb, IntKind.wrap_u8']; omega
            go_wp2_with fail
            rename_i K hK
            have hA1 : Below wr.heap.size wr wr.drew := (Below.refl _ _).drew
            refine wp_region_noPanic ?_
            refine wp_region_held (S := fun w => w.cell? (ad.add 0) = some (.int .u8 y0)) (by kernel_rfl) ?_
            show wpAnyH _ _ _ _ _ _ _ _ wr.drew
            have hcd : wr.drew.cell? (ad.add 0) = some (.int .u8 y0) := hc0
            refine wpAnyH_take (i := 0) (oi := ⟨some 54, _, _, _, _, _⟩) (v := .pointer (some ⟨W.heap.size + 1, 16, none⟩)) rfl (by kernel_rfl) (by kernel_rfl) (by kernel_rfl) (fun c a w h => h) (Or.inl ⟨by rfl, fun w _ => rfl⟩) hcd ?_
            simp only [Act.put, List.setIfInBounds_toArray, List.set_cons_zero, List.set_cons_succ]
            refine wpAnyH_take (i := 2) (oi := ⟨some 56, _, _, _, _, _⟩) (v := .int .i64 q) rfl (by kernel_rfl) (by kernel_rfl) (by kernel_rfl) (fun c a w h => h) (Or.inl ⟨by rfl, fun w _ => rfl⟩) hcd ?_
            simp only [Act.put, List.setIfInBounds_toArray, List.set_cons_zero, List.set_cons_succ]
            refine wpAnyH_take (i := 3) (oi := ⟨some 57, _, _, _, _, _⟩) (v := .int .i64 (IntKind.i64.wrap ((q : Int) * 37))) rfl (by kernel_rfl) (by kernel_rfl) (by kernel_rfl) (fun c a w h => h) (Or.inl ⟨by rfl, fun w _ => rfl⟩) hcd ?_
            simp only [Act.put, List.setIfInBounds_toArray, List.set_cons_zero, List.set_cons_succ]
            refine wpAnyH_take (i := 4) (oi := ⟨some 58, _, _, _, _, _⟩) (v := .slice (some ad) len c) rfl (by kernel_rfl) (by kernel_rfl) (by kernel_rfl) (fun c a w h => h) (Or.inl ⟨by rfl, fun w _ => rfl⟩) hcd ?_
            simp only [Act.put, List.setIfInBounds_toArray, List.set_cons_zero, List.set_cons_succ]
            refine wpAnyH_take (i := 5) (oi := ⟨some 59, _, _, _, _, _⟩) (v := .pointer (some (ad.add 0))) rfl (by kernel_rfl) (by kernel_rfl) (by kernel_rfl) (fun c a w h => h) (yieldsIf_index22 (by rfl) (.tmp 58) (.const (.int .i64 0)) rfl ad len c 0 hlen0 rfl rfl) hcd ?_
            simp only [Act.put, List.setIfInBounds_toArray, List.set_cons_zero, List.set_cons_succ]
            refine wpAnyH_take (i := 6) (oi := ⟨some 60, _, _, _, _, _⟩) (v := .int .u8 y0) rfl (by kernel_rfl) (by kernel_rfl) (by kernel_rfl) (fun c a w h => h) (yieldsIf_load_cell (by rfl) 5 (.tmp 59) rfl (ad.add 0) rfl _ _ (fun w h => h) Try.underlying5 rfl) hcd ?_
            simp only [Act.put, List.setIfInBounds_toArray, List.set_cons_zero, List.set_cons_succ]
            refine wpAnyH_take (i := 7) (oi := ⟨some 61, _, _, _, _, _⟩) (v := .int .i64 (IntKind.i64.wrap y0)) rfl (by kernel_rfl) (by kernel_rfl) (by kernel_rfl) (fun c a w h => h) (Or.inl ⟨by rfl, fun w _ => rfl⟩) hcd ?_
            simp only [Act.put, List.setIfInBounds_toArray, List.set_cons_zero, List.set_cons_succ]
            refine wpAnyH_take (i := 8) (oi := ⟨some 62, _, _, _, _, _⟩) (v := .int .i64 (IntKind.i64.wrap (IntKind.i64.wrap ((q : Int) * 37) + IntKind.i64.wrap y0))) rfl (by kernel_rfl) (by kernel_rfl) (by kernel_rfl) (fun c a w h => h) (Or.inl ⟨by rfl, fun w _ => rfl⟩) hcd ?_
            simp only [Act.put, List.setIfInBounds_toArray, List.set_cons_zero, List.set_cons_succ]
            refine wpAnyH_take (i := 9) (oi := ⟨some 63, _, _, _, _, _⟩) (v := .int .u8 (IntKind.u8.wrap (IntKind.i64.wrap (IntKind.i64.wrap ((q : Int) * 37) + IntKind.i64.wrap y0)))) rfl (by kernel_rfl) (by kernel_rfl) (by kernel_rfl) (fun c a w h => h) (Or.inl ⟨by rfl, fun w _ => rfl⟩) hcd ?_
            simp only [Act.put, List.setIfInBounds_toArray, List.set_cons_zero, List.set_cons_succ]
            rw [← hbb]
            have hst3 := hst.alloc (.cells #[.int .u8 bb] 5)
            have hn3 := Blk.new wr.drew 5 #[.int .u8 bb]
            have hcd3 : (wr.drew.alloc (.cells #[.int .u8 bb] 5)).cell? (ad.add 0) = some (.int .u8 y0) := by rw [World.cell?_alloc_lt _ _ _ (World.block_lt_of_cell? _ _ hcd)]; exact hcd
            have hcv3 : (wr.drew.alloc (.cells #[.int .u8 bb] 5)).cell? ⟨W.heap.size + 1, 16, none⟩ = some (.slice A' q c') := by rw [hst3.t.cell, hq]; exact tabCells_last _ _ hst3.len
            obtain ⟨w3, hw3⟩ : ∃ w3, w3 = wr.drew.alloc (.cells #[.int .u8 bb] 5) := ⟨_, rfl⟩
            rw [← hw3] at hst3 hn3 hcd3 hcv3
            have hcdr : wr.drew.cell? ⟨W.heap.size + 1, 16, none⟩ = some (.slice A' q c') := hcv
            refine wpAnyH_ready (rs := [1, 10]) (by kernel_rfl) (by simp) ?_
            refine AllReadyH.cons rfl (fun K' hK' => ?_) (AllReadyH.cons rfl (fun K' hK' => ?_) AllReadyH.nil)
            · have _h := True.intro
              rw [if_pos (by rfl)]
              refine wp_ran (run_load_cell 22 (.tmp 54) rfl ⟨W.heap.size + 1, 16, none⟩ rfl (.slice A' q c') _ hcdr Try.underlying22 rfl) ?_
              refine hK'.out _ _ hcd (fun hS5 => ?_)
              clear hK' K' hS5
              simp only [Act.put, List.setIfInBounds_toArray]
              refine wpAnyH_ready (rs := [10]) (by kernel_rfl) (by simp) ?_
              refine AllReadyH.cons rfl (fun K' hK' => ?_) AllReadyH.nil
              rw [if_pos (by rfl)]
              refine wp_bslice 22 5 1 _ rfl Try.underlying22 #[.int .u8 bb] (by kernel_rfl) ?_
              rw [← hw3]
              refine hK'.out _ _ hcd3 (fun hS5 => ?_)
              clear hK' K' hS5
              simp only [Act.put]
              refine wpAnyH_ready (rs := [11]) (by kernel_rfl) (by simp) ?_
              refine AllReadyH.cons rfl (fun K' hK' => ?_) AllReadyH.nil
              rw [if_pos (by rfl)]
              refine wp_append1 info5 rfl Try.underlying22 (.tmp 55) (.tmp 64) rfl (W.heap.size + 2) (.slice A' q c') q (bytesV vs') rfl (hq ▸ hst3.o) wr.drew.heap.size rfl hn3 rfl (by omega) (by omega) hst3.size ?_
              intro v8 w8 hown8 hg8
              have hg8' : w3.grownBy w8 (Value.slice A' vs'.length c').ownBlock := by rw [← hq]; exact hg8
              have hst8 := hst3.grown hg8'
              have hcd8 := hst3.far hg8' (ad.add 0) (by rw [block_of_add]; exact hadB) hcd3
              refine hK'.out _ _ hcd8 (fun hS5 => ?_)
              clear hK' K' hS5
              simp only [Act.put]
              refine wpAnyH_take (i := 12) (oi := ⟨some 66, _, _, _, _, _⟩) (v := .pointer (some ⟨W.heap.size + 1, 16, none⟩)) rfl (by kernel_rfl) (by kernel_rfl) (by kernel_rfl) (fun c a w h => h) (Or.inl ⟨by rfl, fun w _ => rfl⟩) hcd8 ?_
              simp only [Act.put]
              refine wpAnyH_ready (rs := [13]) (by kernel_rfl) (by simp) ?_
              refine AllReadyH.cons rfl (fun K' hK' => ?_) AllReadyH.nil
              rw [if_pos (by rfl)]
              refine wp_store_cell 22 (.tmp 66) (.tmp 65) rfl (W.heap.size + 1) 16 v8 rfl rfl (by rw [hst8.t.cell]; rw [tabCells_last _ _ hst8.len]; rfl) (hst8.t.frozen 16) (by kernel_rfl) (own_one hown8) ?_
              have hst9 := hst8.put hown8 hq hbb2.1 hbb2.2
              refine hK'.out _ _ (by rw [World.cell?_setCell_far _ _ _ _ (by rw [block_of_add]; exact fun e => absurd hadB (by rw [← e]; simp))]; exact hcd8) (fun hS5 => ?_)
              clear hK' K' hS5
              refine wpAnyH_done (by kernel_rfl) ?_ _
              refine hK _ _ ?_
              simp only [Act.put]
              clear hK K hst8 hst3 hn3 hcd3 hcv3 hcd8 hcd hcdr hw3 hbb
              go_wp2_with fail
              go_roundw
              case rel => exact ⟨k + 1, vs' ++ [bb], v8, by omega, by go_num, by simp; omega, by simp; omega, hst9⟩
              case measure => simp [intOf]; omega
            · have _h := True.intro
              rw [if_pos (by rfl)]
              refine wp_bslice 22 5 1 _ rfl Try.underlying22 #[.int .u8 bb] (by kernel_rfl) ?_
              rw [← hw3]
              refine hK'.out _ _ hcd3 (fun hS5 => ?_)
              clear hK' K' hS5
              simp only [Act.put, List.setIfInBounds_toArray]
              refine wpAnyH_ready (rs := [1]) (by kernel_rfl) (by simp) ?_
              refine AllReadyH.cons rfl (fun K' hK' => ?_) AllReadyH.nil
              rw [if_pos (by rfl)]
              refine wp_ran (run_load_cell 22 (.tmp 54) rfl ⟨W.heap.size + 1, 16, none⟩ rfl (.slice A' q c') _ hcv3 Try.underlying22 rfl) ?_
              refine hK'.out _ _ hcd3 (fun hS5 => ?_)
              clear hK' K' hS5
              simp only [Act.put]
              refine wpAnyH_ready (rs := [11]) (by kernel_rfl) (by simp) ?_
              refine AllReadyH.cons rfl (fun K' hK' => ?_) AllReadyH.nil
              rw [if_pos (by rfl)]
              refine wp_append1 info5 rfl Try.underlying22 (.tmp 55) (.tmp 64) rfl (W.heap.size + 2) (.slice A' q c') q (bytesV vs') rfl (hq ▸ hst3.o) wr.drew.heap.size rfl hn3 rfl (by omega) (by omega) hst3.size ?_
              intro v8 w8 hown8 hg8
              have hg8' : w3.grownBy w8 (Value.slice A' vs'.length c').ownBlock := by rw [← hq]; exact hg8
              have hst8 := hst3.grown hg8'
              have hcd8 := hst3.far hg8' (ad.add 0) (by rw [block_of_add]; exact hadB) hcd3
              refine hK'.out _ _ hcd8 (fun hS5 => ?_)
              clear hK' K' hS5
              simp only [Act.put]
              refine wpAnyH_take (i := 12) (oi := ⟨some 66, _, _, _, _, _⟩) (v := .pointer (some ⟨W.heap.size + 1, 16, none⟩)) rfl (by kernel_rfl) (by kernel_rfl) (by kernel_rfl) (fun c a w h => h) (Or.inl ⟨by rfl, fun w _ => rfl⟩) hcd8 ?_
              simp only [Act.put]
              refine wpAnyH_ready (rs := [13]) (by kernel_rfl) (by simp) ?_
              refine AllReadyH.cons rfl (fun K' hK' => ?_) AllReadyH.nil
              rw [if_pos (by rfl)]
              refine wp_store_cell 22 (.tmp 66) (.tmp 65) rfl (W.heap.size + 1) 16 v8 rfl rfl (by rw [hst8.t.cell]; rw [tabCells_last _ _ hst8.len]; rfl) (hst8.t.frozen 16) (by kernel_rfl) (own_one hown8) ?_
              have hst9 := hst8.put hown8 hq hbb2.1 hbb2.2
              refine hK'.out _ _ (by rw [World.cell?_setCell_far _ _ _ _ (by rw [block_of_add]; exact fun e => absurd hadB (by rw [← e]; simp))]; exact hcd8) (fun hS5 => ?_)
              clear hK' K' hS5
              refine wpAnyH_done (by kernel_rfl) ?_ _
              refine hK _ _ ?_
              simp only [Act.put]
              clear hK K hst8 hst3 hn3 hcd3 hcv3 hcd8 hcd hcdr hw3 hbb
              go_wp2_with fail
              go_roundw
              case rel => exact ⟨k + 1, vs' ++ [bb], v8, by omega, by go_num, by simp; omega, by simp; omega, hst9⟩
              case measure => simp [intOf]; omega
          · obtain rfl : k = N := by omega
            go_wp2_with fail
            go_roundw
            case rel => exact ⟨i + 1, L, ct2, vs', u', by omega, by go_num, rfl, rfl, hst, by omega, hL2, hL3, hL4⟩
            case measure => simp [intOf]; omega
    · have hcv : wr.cell? ⟨W.heap.size + 1, 16, none⟩ = some u := by rw [hst.t.cell]; exact tabCells_last _ _ hst.len
      obtain ⟨A', c', rfl, _⟩ := own_form hst.o
      have hB := hst.t
      have hszt : (tabCells ct (.slice A' vs.length c')).size = 17 := tabCells_size _ _ hst.len
      have szt := size27 hszt
      have hos : t0.size = (tabCells ct (.slice A' vs.length c')).size := by rw [HS0.out, hszt]
      have hot : (tabCells ct (.slice A' vs.length c')).all (·.oneCell') = true := tabCells_one ct _ rfl
      have HFIN := Lib.hid (fun w' hg hn => hst.fin w' hg hn)
      obtain ⟨n, hn⟩ : ∃ n, n = vs.length := ⟨_, rfl⟩
      rw [← hn] at hcv hB szt hos hot HFIN ⊢
      obtain ⟨tc, htc⟩ : ∃ tc, tc = tabCells ct (.slice A' n c') := ⟨_, rfl⟩
      rw [← htc] at hB szt hos hot HFIN
      have hn2 : n ≤ 2032 := by omega
      have HOS := Lib.hid hos
      have hR := hst.r
      clear htc hos hszt
      by_cases h16 : i < 16
      · have hil : ¬ (i : Int) < len := by omega
        have hl16 : ¬ (16 : Int) < len := by omega
        clear hin
        go_wp2_with (first | (refine wpList_load_blk rfl 27 (.tmp 3) rfl (W.heap.size + 1) rfl 27 _ _ hB Try.underlying27 rfl szt ?_) | (refine wpList_store_blk rfl 27 (.tmp 2) (.tmp 91) rfl W.heap.size rfl 27 t0 tc rfl hR szt HOS.out hot ?_; intro w5 hR5 hg5 hs5; clear hs5))
        exact bodyPost_ret (results_cell_blk rfl _ _ W.heap.size 27 _ _ rfl hR5 Try.underlying27 rfl szt) rfl (HFIN.out w5 hg5 (by omega))
      · obtain rfl : i = 16 := by omega
        clear hin
        have stf : TableBack W (.returned (.agg tc)) = TableBack W (.returned (.agg tc)) := rfl
        by_cases hl16 : 16 < len
        · obtain ⟨ad, x, rfl, _, hx, hc16⟩ := (hr.below hst.b).at_ hl16
          have hx' : bs[16]? = some (bs.getD 16 0) := by rw [List.getD_eq_getElem?_getD, List.getElem?_eq_getElem (by omega)]; rfl
          obtain rfl : x = .int .u8 (bs.getD 16 0) := by
            rw [bytesV, List.getElem?_map, hx'] at hx; simpa using hx.symm
          obtain ⟨g0, g1⟩ := getD_bd hb 16
          generalize bs.getD 16 0 = y at *
          have hc16' : wr.cell? ⟨ad.block, ad.off + 16, none⟩ = some (.int .u8 y) := hc16
          clear hx hx' stf
          by_cases hy : 230 < y
          · by_cases hn1 : 1 < n
            · have hgt : (1 : Int) < (n : Int) := by omega
              obtain ⟨gv, cv, hsl⟩ := own_slice (hn ▸ hst.o) (by omega : 0 < n)
              injection hsl with hA _ hcc
              subst hA
              subst hcc
              obtain ⟨b1, hb1⟩ : ∃ b1, vs[1]? = some b1 := ⟨_, List.getElem?_eq_getElem (by omega)⟩
              have hbb := hst.by_ b1 (List.mem_of_getElem? hb1)
              have hv1 : (bytesV vs)[1]? = some (.int .u8 b1) := by rw [bytesV, List.getElem?_map, hb1]; rfl
              have hSb : wr.drew.cell? ⟨gv, 1, none⟩ = some (.int .u8 b1) := own_cell hst.o 1 _ hv1
              have hv0 : (bytesV vs)[0]? = some (.int .u8 (vs.getD 0 0)) := by rw [bytesV, List.getElem?_map, List.getElem?_eq_getElem (by omega), List.getD_eq_getElem?_getD, List.getElem?_eq_getElem (by omega)]; rfl
              have hc0 := own_cell hst.o 0 _ hv0
              have hf0 := hst.o.frozenAt 0
              have hgv : W.heap.size + 2 ≤ gv := own_ge hst.o gv rfl
              have hSa : wr.drew.cell? ⟨W.heap.size + 1, 16, none⟩ = some (.slice (some ⟨gv, 0, none⟩) n c') := hcv
              obtain ⟨s1, s2⟩ := hst.o.stored 0 (.int .u8 b1)
              have hst2 := hst.swapped hgv s1 (by omega) hbb.1 hbb.2
              have hB2 := hst2.t
              have hR2 := hst2.r
              have hszt : (tabCells ct (.slice (some ⟨gv, 0, none⟩) vs.length c')).size = 17 := tabCells_size _ _ hst.len
              have szt2 := size27 hszt
              have hos2 : t0.size = (tabCells ct (.slice (some ⟨gv, 0, none⟩) vs.length c')).size := by rw [HS0.out, hszt]
              have hot2 : (tabCells ct (.slice (some ⟨gv, 0, none⟩) vs.length c')).all (·.oneCell') = true := tabCells_one ct _ rfl
              have HFIN2 := Lib.hid (fun w' hg hn => hst2.fin w' hg hn)
              have hls : (vs.set 0 b1).length = n := by rw [List.length_set, hn]
              have HLS := Lib.hid hls
              clear hls hszt
              obtain ⟨tc2, htc2⟩ : ∃ tc2, tc2 = tabCells ct (.slice (some ⟨gv, 0, none⟩) vs.length c') := ⟨_, rfl⟩
              rw [← htc2] at hB2 szt2 hos2 hot2 HFIN2
              have HOS2 := Lib.hid hos2
              clear htc2 hos2 hv0 hv1 hb1
              go_wp2_with fail
              rename_i K hK _h1 _h2 _h3
              refine wp_region_noPanic ?_
              refine wp_region_held (S := fun w => w.cell? ⟨W.heap.size + 1, 16, none⟩ = some (.slice (some ⟨gv, 0, none⟩) n c') ∧ w.cell? ⟨gv, 1, none⟩ = some (.int .u8 b1)) (by kernel_rfl) ?_
              show wpAnyH _ _ _ _ _ _ _ _ wr.drew
              refine wpAnyH_take (i := 0) (oi := ⟨some 84, _, _, _, _, _⟩) (v := .pointer (some ⟨W.heap.size + 1, 16, none⟩)) rfl (by kernel_rfl) (by kernel_rfl) (by kernel_rfl) (fun c a w h => h) (Or.inl ⟨by rfl, fun w _ => rfl⟩) ⟨hSa, hSb⟩ ?_
              simp only [Act.put, List.setIfInBounds_toArray, List.set_cons_zero, List.set_cons_succ]
              refine wpAnyH_take (i := 1) (oi := ⟨some 85, _, _, _, _, _⟩) (v := .slice (some ⟨gv, 0, none⟩) n c') rfl (by kernel_rfl) (by kernel_rfl) (by kernel_rfl) (fun c a w h => h) (yieldsIf_load_cell (by rfl) 22 (.tmp 84) rfl ⟨W.heap.size + 1, 16, none⟩ rfl _ _ (fun w h => h.1) Try.underlying22 rfl) ⟨hSa, hSb⟩ ?_
              simp only [Act.put, List.setIfInBounds_toArray, List.set_cons_zero, List.set_cons_succ]
              refine wpAnyH_take (i := 2) (oi := ⟨some 86, _, _, _, _, _⟩) (v := .pointer (some ⟨W.heap.size + 1, 16, none⟩)) rfl (by kernel_rfl) (by kernel_rfl) (by kernel_rfl) (fun c a w h => h) (Or.inl ⟨by rfl, fun w _ => rfl⟩) ⟨hSa, hSb⟩ ?_
              simp only [Act.put, List.setIfInBounds_toArray, List.set_cons_zero, List.set_cons_succ]
              refine wpAnyH_take (i := 3) (oi := ⟨some 87, _, _, _, _, _⟩) (v := .slice (some ⟨gv, 0, none⟩) n c') rfl (by kernel_rfl) (by kernel_rfl) (by kernel_rfl) (fun c a w h => h) (yieldsIf_load_cell (by rfl) 22 (.tmp 86) rfl ⟨W.heap.size + 1, 16, none⟩ rfl _ _ (fun w h => h.1) Try.underlying22 rfl) ⟨hSa, hSb⟩ ?_
              simp only [Act.put, List.setIfInBounds_toArray, List.set_cons_zero, List.set_cons_succ]
              refine wpAnyH_take (i := 4) (oi := ⟨some 88, _, _, _, _, _⟩) (v := .pointer (some ⟨gv, 1, none⟩)) rfl (by kernel_rfl) (by kernel_rfl) (by kernel_rfl) (fun c a w h => h) (yieldsIf_index22 (by rfl) (.tmp 87) (.const (.int .i64 1)) rfl ⟨gv, 0, none⟩ n c' 1 (by omega) rfl rfl) ⟨hSa, hSb⟩ ?_
              simp only [Act.put, List.setIfInBounds_toArray, List.set_cons_zero, List.set_cons_succ]
              refine wpAnyH_take (i := 5) (oi := ⟨some 89, _, _, _, _, _⟩) (v := .int .u8 b1) rfl (by kernel_rfl) (by kernel_rfl) (by kernel_rfl) (fun c a w h => h) (yieldsIf_load_cell (by rfl) 5 (.tmp 88) rfl ⟨gv, 1, none⟩ rfl _ _ (fun w h => h.2) Try.underlying5 rfl) ⟨hSa, hSb⟩ ?_
              simp only [Act.put, List.setIfInBounds_toArray, List.set_cons_zero, List.set_cons_succ]
              refine wpAnyH_take (i := 6) (oi := ⟨some 90, _, _, _, _, _⟩) (v := .pointer (some ⟨gv, 0, none⟩)) rfl (by kernel_rfl) (by kernel_rfl) (by kernel_rfl) (fun c a w h => h) (yieldsIf_index22 (by rfl) (.tmp 85) (.const (.int .i64 0)) rfl ⟨gv, 0, none⟩ n c' 0 (by omega) rfl rfl) ⟨hSa, hSb⟩ ?_
              simp only [Act.put, List.setIfInBounds_toArray, List.set_cons_zero, List.set_cons_succ]
              refine wpAnyH_ready (rs := [7]) (by kernel_rfl) (by simp) ?_
              refine AllReadyH.cons rfl (fun K' hK' => ?_) AllReadyH.nil
              rw [if_pos (by rfl)]
              refine wp_store_cell 5 (.tmp 90) (.tmp 89) rfl gv 0 (.int .u8 b1) rfl rfl (by show (wr.cell? _).isSome = true; rw [hc0]; rfl) hf0 (by kernel_rfl) rfl ?_
              refine hK'.out _ _ ⟨(World.cell?_setCell_far _ _ _ _ (by simp; omega)).trans hSa, (World.cell?_setCell_other _ _ _ _ (by simp)).trans hSb⟩ (fun hS5 => ?_)
              clear hK' K' hS5
              refine wpAnyH_done (by kernel_rfl) ?_ _
              refine hK _ _ ?_
              simp only [Act.put, List.setIfInBounds_toArray]
              replace hB2 : Blk (wr.drew.setCell ⟨gv, 0, none⟩ (.int .u8 b1)) (W.heap.size + 1) 27 tc2 := hB2
              replace hR2 : Blk (wr.drew.setCell ⟨gv, 0, none⟩ (.int .u8 b1)) W.heap.size 27 t0 := hR2
              clear hK K
              go_wp2_with (first | (refine wpList_load_blk rfl 27 (.tmp 3) rfl (W.heap.size + 1) rfl 27 _ _ hB2 Try.underlying27 rfl szt2 ?_) | (refine wpList_store_blk rfl 27 (.tmp 2) (.tmp 91) rfl W.heap.size rfl 27 t0 tc2 rfl hR2 szt2 HOS2.out hot2 ?_; intro w5 hR5 hg5 hs5; clear hs5))
              exact bodyPost_ret (results_cell_blk rfl _ _ W.heap.size 27 _ _ rfl hR5 Try.underlying27 rfl szt2) rfl (HFIN2.out w5 hg5 (by rw [HLS.out]; omega))
            · have hcv2 := hcv
              go_wp2_with (first | (refine wpList_load_blk rfl 27 (.tmp 3) rfl (W.heap.size + 1) rfl 27 _ _ hB Try.underlying27 rfl szt ?_) | (refine wpList_store_blk rfl 27 (.tmp 2) (.tmp 91) rfl W.heap.size rfl 27 t0 tc rfl hR szt HOS.out hot ?_; intro w5 hR5 hg5 hs5; clear hs5))
              exact bodyPost_ret (results_cell_blk rfl _ _ W.heap.size 27 _ _ rfl hR5 Try.underlying27 rfl szt) rfl (HFIN.out w5 hg5 (by omega))
          · go_wp2_with (first | (refine wpList_load_blk rfl 27 (.tmp 3) rfl (W.heap.size + 1) rfl 27 _ _ hB Try.underlying27 rfl szt ?_) | (refine wpList_store_blk rfl 27 (.tmp 2) (.tmp 91) rfl W.heap.size rfl 27 t0 tc rfl hR szt HOS.out hot ?_; intro w5 hR5 hg5 hs5; clear hs5))
            exact bodyPost_ret (results_cell_blk rfl _ _ W.heap.size 27 _ _ rfl hR5 Try.underlying27 rfl szt) rfl (HFIN.out w5 hg5 (by omega))
        · go_wp2_with (first | (refine wpList_load_blk rfl 27 (.tmp 3) rfl (W.heap.size + 1) rfl 27 _ _ hB Try.underlying27 rfl szt ?_) | (refine wpList_store_blk rfl 27 (.tmp 2) (.tmp 91) rfl W.heap.size rfl 27 t0 tc rfl hR szt HOS.out hot ?_; intro w5 hR5 hg5 hs5; clear hs5))
          exact bodyPost_ret (results_cell_blk rfl _ _ W.heap.size 27 _ _ rfl hR5 Try.underlying27 rfl szt) rfl (HFIN.out w5 hg5 (by omega))
end Go.Proofs.Ytbjcjddaaegheaa
