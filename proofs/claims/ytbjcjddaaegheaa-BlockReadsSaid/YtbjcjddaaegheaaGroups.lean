/- block.Groups: the rows of codes of any block whose numbers are in bounds. -/
import Derived.Test.YtbjcjddaaegheaaRowsAt
import Derived.Test.YtbjcjddaaegheaaBRead
import Derived.Test.YtbjcjddaaegheaaZig
import Derived.Great.Walk
namespace Go.Proofs.Ytbjcjddaaegheaa
open Go.RowKit

/-- the boxes of a call of Groups -/
structure GSt (W : World) (cz cd ca : Array Value) (w : World) : Prop where
  z : Blk w W.heap.size 33 cz
  d : Blk w (W.heap.size + 1) 43 cd
  a : Blk w (W.heap.size + 1 + 1) 43 ca
  b : Below W.heap.size W w
theorem GSt.size {W : World} {cz cd ca : Array Value} {w : World} (h : GSt W cz cd ca w) : W.heap.size + 3 ≤ w.heap.size := by have := h.a.lt; omega
theorem GSt.below {W : World} {cz cd ca : Array Value} {w w' : World} (h : GSt W cz cd ca w) {K : Nat} (hb : Below K w w') (hk : W.heap.size + 3 ≤ K) : GSt W cz cd ca w' :=
  ⟨h.z.below hb (by omega), h.d.below hb (by omega), h.a.below hb (by omega), h.b.trans (hb.mono (by omega))⟩
theorem GSt.alloc {W : World} {cz cd ca : Array Value} {w : World} (h : GSt W cz cd ca w) (o : Obj) : GSt W cz cd ca (w.alloc o) :=
  h.below ((Below.refl _ _).alloc (Nat.le_refl _) o) h.size
theorem GSt.drew {W : World} {cz cd ca : Array Value} {w : World} (h : GSt W cz cd ca w) : GSt W cz cd ca w.drew := ⟨h.z, h.d, h.a, h.b.drew⟩
theorem GSt.grown {W : World} {cz cd ca : Array Value} {w w' : World} (h : GSt W cz cd ca w) {e size n : Nat} {v : Value} {xs : List Value} (ho : w.ownsRow (W.heap.size + 3) e size v n xs) (hg : w.grownBy w' v.ownBlock) : GSt W cz cd ca w' :=
  h.below (below_own ho hg (Nat.le_refl _) h.size) (Nat.le_refl _)
theorem GSt.start (W : World) (cz cd ca : Array Value) : GSt W cz cd ca (((W.alloc (.cells cz 33)).alloc (.cells cd 43)).alloc (.cells ca 43)) := by
  refine ⟨((Blk.new W 33 _).alloc _).alloc _, ?_, ?_, ((((Below.refl _ _).alloc (Nat.le_refl _) _).alloc (by simp) _).alloc (by simp; omega) _)⟩
  · have := (Blk.new (W.alloc (.cells cz 33)) 43 cd).alloc (.cells ca 43)
    rwa [World.size_alloc] at this
  · have := Blk.new ((W.alloc (.cells cz 33)).alloc (.cells cd 43)) 43 ca
    rwa [World.size_alloc, World.size_alloc] at this
theorem range_code {w : World} {g t : Nat} {f : Nat → Nat × Nat} (h : Blk w g t (codeC f)) (s : Nat) (hs : s < 256) : w.rangeAt g (s * 2) [.int .i64 (codeP f s).1, .int .i64 (codeP f s).2] := by
  refine h.range _ _ fun j v hv => ?_
  match j, hv with
  | 0, hv => simp only [List.getElem?_cons_zero, Option.some.injEq] at hv; subst hv; exact codeC_n f s hs
  | 1, hv => simp only [List.getElem?_cons_succ, List.getElem?_cons_zero, Option.some.injEq] at hv; subst hv; exact codeC_v f s hs
  | j + 2, hv => simp at hv

theorem idx43 (g s : Nat) (hs : s < 256) (w : World) : (Instr.indexAt 43 (.pointer (some ⟨g, 0, none⟩)) (.int .i64 s)).run Try.prog w = .ok (.pointer (some ⟨g, s * 2, none⟩)) w := by
  have h1 : (Try.prog.info? 42).map (·.size) = some 2 := by kernel_rfl
  obtain ⟨i, hi, hsz⟩ := Option.map_eq_some_iff.1 h1
  have hn : 0 ≤ (s : Int) ∧ (s : Int) < 256 := by omega
  simp [Instr.indexAt, run_underlying Try.underlying43, asIntOf, hn, sizeOf, typeInfo, hi, hsz, Result.andThen, go_sem]
  exact fun h => absurd h (by omega)
theorem yieldsIf_index43 {ops : Array Oper} {S : World → Prop} {op : Oper} {a : Act} (hw : Region.wanted op (yielded ops a.tmps) = true) (x ix : Operand) (ho : op.op = .indexAddr 43 x ix) (g s : Nat) (hs : s < 256)
    (hx : a.eval x = .pointer (some ⟨g, 0, none⟩)) (hix : a.eval ix = .int .i64 s) : YieldsIf Try.prog ops S op (.pointer (some ⟨g, s * 2, none⟩)) a :=
  .inl ⟨hw, fun w _ => by
    unfold execOp
    simp only [ho, hx, hix, Sem.run_bind, idx43 g s hs, Result.andThen_ok, Sem.run_pure]⟩
theorem wp_bslice {P : Program} {o : Oper} {a : Act} {w : World} {K : Act → World → Prop} {Q : Exit → Act → World → Prop} (t e : TypeId) (len : Nat) (parts : Array (Nat × Operand)) (ho : o.op = .buildSlice t len parts)
    (hu : P.underlying t = some (.slice e)) (cells : Array Value) (hf : P.builtSlice e len (parts.map fun (i, x) => (i, a.eval x)).toList = some cells)
    (h : K (a.put o.dst (.slice (some ⟨w.heap.size, 0, none⟩) len len)) (w.alloc (.cells cells e))) : o.wp P a w K Q := by
  unfold Program.builtSlice at hf
  cases hie : P.info? e with
  | none => simp [hie] at hf
  | some ie =>
    simp only [hie] at hf
    cases hz : ie.zero with
    | none => simp [hz] at hf
    | some z =>
      simp only [hz] at hf
      by_cases hc : len * ie.size > 2 ^ 24 ∨ len * ie.size = 0
      · simp [hc] at hf
      · rw [if_neg hc] at hf
        exact wp_buildSlice t e len parts ho cells ie z hu hie hz (fun h' => hc (Or.inl h')) (fun h' => hc (Or.inr h')) hf h
theorem rows_one {w : World} {base g1 g2 m : Nat} {cs : Array Value} {r : List (Int × Int)} (h1 : Blk w g1 42 cs) (h2 : Blk w g2 45 #[.slice (some ⟨g1, 0, none⟩) m m]) (b1 : base ≤ g1) (b2 : base ≤ g2) (hm : r.length = m) (hml : m ≤ maxLen) (hc : cs.toList = rowCells r) : RowsAt w base (.slice (some ⟨g2, 0, none⟩) 1 1) [r] := by
  subst hm
  refine ⟨[.slice (some ⟨g1, 0, none⟩) r.length r.length], rfl, own_new h2 b2 (by decide) rfl, fun i u q hu hq => ?_⟩
  rw [List.getElem?_singleton] at hu hq
  split at hu
  · rename_i h0
    rw [if_pos h0] at hq
    cases hu; cases hq
    have := own_new (size := 2) h1 b1 hml (by rw [← Array.length_toList, hc, rowCells_length])
    rwa [hc] at this
  · cases hu

theorem info42 : (Try.prog.info? 42).map (fun i => (i.zero, i.size, i.bytes)) = some (some (.agg #[.int .i64 0, .int .i64 0]), 2, 16) := by kernel_rfl
theorem info45 : (Try.prog.info? 45).map (fun i => (i.zero, i.size, i.bytes)) = some (some (.slice none 0 0), 1, 24) := by kernel_rfl
theorem append42 {ops : Array Oper} {rest : List Oper} {o : Oper} {a : Act} {w : World} {Q : Exit → Act → World → Prop} (hgd : o.guard = none) (s x : Operand)
    (ho : o.op = .call { callee := .builtin .append, args := #[s, x], argTypes := #[45, 45] }) (base : Nat) (v : Value) (n : Nat) (r : List (Int × Int)) (hs : a.eval s = v) (hown : w.ownsRow base 42 2 v n (rowCells r))
    (g m : Nat) (q : List (Int × Int)) (hx : a.eval x = .slice (some ⟨g, 0, none⟩) m m) (hB : Blk w g 42 (rowCells q).toArray) (hm : q.length = m) (hn : n + m ≤ 1000) (hbase : base ≤ w.heap.size)
    (h : ∀ v' w', w'.ownsRow base 42 2 v' (n + m) (rowCells (r ++ q)) → w.grownBy w' v.ownBlock → wpList Try.prog ops Q rest (a.put o.dst v') w') : wpList Try.prog ops Q (o :: rest) a w := by
  have hI := info42
  obtain ⟨i, hi, hi2⟩ := Option.map_eq_some_iff.1 hI
  simp only [Prod.mk.injEq] at hi2
  obtain ⟨hz, hsz, hby⟩ := hi2
  subst hm
  refine wpList_append_any w hgd s x 45 ho base 42 i _ 2 16 Try.underlying45 hi hz hsz hby rfl (by decide) v n (rowCells r) hs hown (g + 1) (some ⟨g, 0, none⟩) q.length q.length (rowCells q) hx ⟨rowCells_length q, fun _ => ⟨_, rfl, by simp, fun j u hu => ?_⟩⟩ (rowCells_one q) (by simp only [maxLen]; omega) (by omega) hbase (fun v' w' h1 h2 _ => h v' w' (by rw [rowCells_append]; exact h1) h2)
  rw [Addr.add_mid, hB.cell, Nat.zero_add]
  simpa using hu

theorem wpo_append42 {o : Oper} {a : Act} {w : World} {K : Act → World → Prop} {Q : Exit → Act → World → Prop} (s x : Operand)
    (ho : o.op = .call { callee := .builtin .append, args := #[s, x], argTypes := #[45, 45] }) (base : Nat) (v : Value) (n : Nat) (r : List (Int × Int)) (hs : a.eval s = v) (hown : w.ownsRow base 42 2 v n (rowCells r))
    (g m : Nat) (q : List (Int × Int)) (hx : a.eval x = .slice (some ⟨g, 0, none⟩) m m) (hB : Blk w g 42 (rowCells q).toArray) (hm : q.length = m) (hn : n + m ≤ 1000) (hbase : base ≤ w.heap.size)
    (h : ∀ v' w', w'.ownsRow base 42 2 v' (n + m) (rowCells (r ++ q)) → w.grownBy w' v.ownBlock → K (a.put o.dst v') w') : o.wp Try.prog a w K Q := by
  have hI := info42
  obtain ⟨i, hi, hi2⟩ := Option.map_eq_some_iff.1 hI
  simp only [Prod.mk.injEq] at hi2
  obtain ⟨hz, hsz, hby⟩ := hi2
  subst hm
  refine wp_append_any w s x 45 ho base 42 i _ 2 16 Try.underlying45 hi hz hsz hby rfl (by decide) v n (rowCells r) hs hown (g + 1) (some ⟨g, 0, none⟩) q.length q.length (rowCells q) hx ⟨rowCells_length q, fun _ => ⟨_, rfl, by simp, fun j u hu => ?_⟩⟩ (rowCells_one q) (by simp only [maxLen]; omega) (by omega) hbase (fun v' w' h1 h2 _ => h v' w' (by rw [rowCells_append]; exact h1) h2)
  rw [Addr.add_mid, hB.cell, Nat.zero_add]
  simpa using hu
theorem wpo_append45 {o : Oper} {a : Act} {w : World} {K : Act → World → Prop} {Q : Exit → Act → World → Prop} (s x : Operand)
    (ho : o.op = .call { callee := .builtin .append, args := #[s, x], argTypes := #[39, 39] }) (base : Nat) (v : Value) (n : Nat) (xs : List Value) (hs : a.eval s = v) (hown : w.ownsRow base 45 1 v n xs)
    (g : Nat) (u : Value) (hx : a.eval x = .slice (some ⟨g, 0, none⟩) 1 1) (hB : Blk w g 45 #[u]) (hu : u.oneCell' = true) (hn : n ≤ 1000) (hbase : base ≤ w.heap.size)
    (h : ∀ v' w', w'.ownsRow base 45 1 v' (n + 1) (xs ++ [u]) → w.grownBy w' v.ownBlock → K (a.put o.dst v') w') : o.wp Try.prog a w K Q := by
  have hI := info45
  obtain ⟨i, hi, hi2⟩ := Option.map_eq_some_iff.1 hI
  simp only [Prod.mk.injEq] at hi2
  obtain ⟨hz, hsz, hby⟩ := hi2
  refine wp_append_any w s x 39 ho base 45 i _ 1 24 Try.underlying39 hi hz hsz hby rfl (by decide) v n xs hs hown (g + 1) (some ⟨g, 0, none⟩) 1 1 [u] hx ⟨rfl, fun _ => ⟨_, rfl, by simp, fun j y hy => ?_⟩⟩ (by simp [hu]) (by simp only [maxLen]; omega) (by omega) hbase (fun v' w' h1 h2 _ => h v' w' h1 h2)
  rw [Addr.add_mid, hB.cell, Nat.zero_add]
  simpa using hy
theorem own_slice {w : World} {base e size n : Nat} {v : Value} {xs : List Value} (h : w.ownsRow base e size v n xs) (hn : 0 < n) : ∃ g cap, v = .slice (some ⟨g, 0, none⟩) n cap := by
  rcases h.2 with ⟨_, h0⟩ | ⟨g, cap, cur, rfl, _⟩
  · omega
  · exact ⟨g, cap, rfl⟩
theorem or_16 : ∀ m, m < 16 → ∀ s, s < 16 → bits .or .i64 ((16 * m : Nat) : Int) (s : Nat) = ((16 * m + s : Nat) : Int) := by decide
theorem shl_4 (m : Nat) (h : m < 16) (a : Act) (w : World) (o : Oper) (ho : o.op = .binOp .shl 3 (.tmp 48) (.const (.int .u64 4)) 60) (hm : a.eval (.tmp 48) = .int .i64 m) : (execOp a.eval o).run Try.prog w = .ok (.value (.int .i64 ((16 * m : Nat) : Int))) w := by
  have hc : a.eval (.const (.int .u64 4)) = .int .u64 4 := rfl
  unfold execOp
  simp only [ho, hm, hc]
  have h16 : m = 0 ∨ m = 1 ∨ m = 2 ∨ m = 3 ∨ m = 4 ∨ m = 5 ∨ m = 6 ∨ m = 7 ∨ m = 8 ∨ m = 9 ∨ m = 10 ∨ m = 11 ∨ m = 12 ∨ m = 13 ∨ m = 14 ∨ m = 15 := by omega
  clear ho hm hc h
  rcases h16 with rfl | rfl | rfl | rfl | rfl | rfl | rfl | rfl | rfl | rfl | rfl | rfl | rfl | rfl | rfl | rfl <;> (show _ = _; kernel_rfl)
theorem own_one {w : World} {base e size n : Nat} {v : Value} {xs : List Value} (h : w.ownsRow base e size v n xs) : v.oneCell' = true := by
  rcases h.2 with ⟨rfl, _⟩ | ⟨g, cap, cur, rfl, _⟩ <;> rfl
theorem rowG_at (fa : Nat → Nat × Nat) (run j m sx : Nat) (x : Int) (hm : m = run - 16 * j) (hj : 16 * j ≤ run) (h16 : m < 16) (hs : sizeS x = sx) : rowG fa run x = List.replicate j (codeP fa 240) ++ [codeP fa (16 * m + sx), tailP x] := by
  unfold rowG
  rw [show run / 16 = j by omega, show run % 16 = m by omega, hs, Int.toNat_natCast]

set_option maxRecDepth 100000 in
set_option maxHeartbeats 2000000 in
theorem groups_any (z : List Int) (last : Int) (fd fa : Nat → Nat × Nat) (W : World) (hz : Zigged z) (l0 : -1024 ≤ last) (l1 : last ≤ 1023) :
    Calls Try.prog 15 #[.agg (intsC z), .int .i64 last, .agg (codeC fd), .agg (codeC fa)] W fun e w' => ∃ v, e = .returned v ∧ RowsAt w' W.heap.size v (groupsS fd fa z last) ∧ Below W.heap.size W w' := by
  have hst := GSt.start W (intsC z) (codeC fd) (codeC fa)
  obtain ⟨z0, hz0⟩ : ∃ z0, z0 = z.getD 0 0 := ⟨_, rfl⟩
  have hc0 : ((((W.alloc (.cells (intsC z) 33)).alloc (.cells (codeC fd) 43)).alloc (.cells (codeC fa) 43))).cell? ⟨W.heap.size, 0, none⟩ = some (.int .i64 z0) := by rw [hst.z.cell, hz0]; exact intsC_at z 0 (by rw [hz.len]; omega)
  obtain ⟨zf0, zf1⟩ := hz.first
  rw [← hz0] at zf0 zf1
  have hrd := fun w (h : Blk w (W.heap.size + 1) 43 (codeC fd)) => range_code h
  have hra := fun w (h : Blk w (W.heap.size + 1 + 1) 43 (codeC fa)) => range_code h
  have hzat := fun i (h : i < 64) => intsC_at z i (by rw [hz.len]; exact h)
  obtain ⟨cz, hcz⟩ : ∃ cz, cz = intsC z := ⟨_, rfl⟩
  obtain ⟨cd, hcd⟩ : ∃ cd, cd = codeC fd := ⟨_, rfl⟩
  obtain ⟨ca, hca⟩ : ∃ ca, ca = codeC fa := ⟨_, rfl⟩
  obtain ⟨G, hG⟩ : ∃ G, G = groupsS fd fa z last := ⟨_, rfl⟩
  unfold groupsS at hG
  rw [← hz0] at hG
  obtain ⟨d, hd⟩ : ∃ d, d = z0 - last := ⟨_, rfl⟩
  have d0 := sizeS_nonneg d
  have d1 := sizeS_le d 11 (by omega) (by omega)
  obtain ⟨s, hs⟩ : ∃ s : Nat, sizeS d = s := ⟨(sizeS d).toNat, by omega⟩
  rw [← hd, hs, Int.toNat_natCast] at hG
  rw [← hcz] at hst hc0 hzat ⊢
  rw [← hcd] at hst hc0 hrd ⊢
  rw [← hca] at hst hc0 hra ⊢
  have hwr : wrap64 (z0 - last) = d := by rw [hd]; unfold wrap64; omega
  have s11 : s ≤ 11 := by omega
  have HD := Lib.hid hd
  have HRD := Lib.hid hrd
  have HRA := Lib.hid hra
  have HZ := Lib.hid hz
  have HZAT := Lib.hid hzat
  have HS := Lib.hid hs
  have hG' := hG
  rw [show groupsS fd fa z last = G by rw [hG, groupsS, ← hz0, ← hd, hs, Int.toNat_natCast]]
  have HG := Lib.hid hG'
  have e0 : -2047 ≤ d := by omega
  have e1 : d ≤ 2047 := by omega
  clear hG hG' hz0 hcz hcd hca hd hs hrd hra hzat hz d0 d1 zf0 zf1
  go_enter Try.func15, Try.ntmps15
  go_wp2_with fail
  rename_i K hK
  rw [hwr]
  have hsz3 : (((W.alloc (.cells cz 33)).alloc (.cells cd 43)).alloc (.cells ca 43)).heap.size = W.heap.size + 3 := by simp
  generalize hw1 : ((W.alloc (.cells cz 33)).alloc (.cells cd 43)).alloc (.cells ca 43) = w1 at *
  clear hw1
  have hst1 := hst.drew
  refine wp_region_noPanic ?_
  refine wp_region_held (S := fun w => Blk w (W.heap.size + 1) 43 cd) (by kernel_rfl) ?_
  show wpAnyH _ _ _ _ _ _ _ _ w1.drew
  refine wpAnyH_take (i := 0) (oi := ⟨some 19, _, _, _, _, _⟩) (v := .int .i64 d) rfl (by kernel_rfl) (by kernel_rfl) (by kernel_rfl) (fun c a w h => h) (Or.inl ⟨by rfl, fun w _ => rfl⟩) hst1.d ?_
  simp only [Act.put, List.setIfInBounds_toArray, List.set_cons_zero, List.set_cons_succ]
  refine wpAnyH_take (i := 4) (oi := ⟨some 23, _, _, _, _, _⟩) (v := .int .i64 d) rfl (by kernel_rfl) (by kernel_rfl) (by kernel_rfl) (fun c a w h => h) (Or.inl ⟨by rfl, fun w _ => rfl⟩) hst1.d ?_
  simp only [Act.put, List.setIfInBounds_toArray, List.set_cons_zero, List.set_cons_succ]
  refine wpAnyH_ready (rs := [1]) (by kernel_rfl) (by simp) ?_
  refine AllReadyH.cons rfl (fun K' hK' => ?_) AllReadyH.nil
  go_simp
  refine (size_any d _ (by omega) (by omega)).mono ?_
  rintro e w2 ⟨rfl, rfl⟩
  rw [HS.out]
  refine hK'.out _ _ hst1.d (fun hS5 => ?_)
  clear hK' K' hS5
  refine wpAnyH_take (i := 2) (oi := ⟨some 21, _, _, _, _, _⟩) (v := .pointer (some ⟨W.heap.size + 1, s * 2, none⟩)) rfl (by kernel_rfl) (by kernel_rfl) (by kernel_rfl) (fun c a w h => h) (yieldsIf_index43 (by rfl) (.tmp 6) (.tmp 20) rfl (W.heap.size + 1) s (by omega) rfl rfl) hst1.d ?_
  simp only [Act.put, List.setIfInBounds_toArray, List.set_cons_zero, List.set_cons_succ]
  refine wpAnyH_take (i := 3) (oi := ⟨some 22, _, _, _, _, _⟩) (v := .agg #[.int .i64 (codeP fd s).1, .int .i64 (codeP fd s).2]) rfl (by kernel_rfl) (by kernel_rfl) (by kernel_rfl) (fun c a w h => h) (yieldsIf_load_mid (by rfl) 42 (.tmp 21) rfl (W.heap.size + 1) (s * 2) rfl [_, _] _ (fun w h => HRD.out w h s (by omega)) Try.underlying42 rfl (by kernel_rfl)) hst1.d ?_
  simp only [Act.put, List.setIfInBounds_toArray, List.set_cons_zero, List.set_cons_succ]
  refine wpAnyH_ready (rs := [5]) (by kernel_rfl) (by simp) ?_
  refine AllReadyH.cons rfl (fun K' hK' => ?_) AllReadyH.nil
  go_simp
  refine (tail_any d _ (by omega) (by omega)).mono ?_
  rintro e w2 ⟨rfl, hb2⟩
  have hst2 := hst1.below hb2 hst1.size
  refine hK'.out _ _ hst2.d (fun hS5 => ?_)
  clear hK' K' hS5 hb2 hst1
  refine wpAnyH_ready (rs := [6]) (by kernel_rfl) (by simp) ?_
  refine AllReadyH.cons rfl (fun K' hK' => ?_) AllReadyH.nil
  rw [if_pos (by rfl)]
  refine wp_bslice 45 42 2 _ rfl Try.underlying45 #[.int .i64 (codeP fd s).1, .int .i64 (codeP fd s).2, .int .i64 (tailP d).1, .int .i64 (tailP d).2] (by kernel_rfl) ?_
  have hst3 := hst2.alloc (.cells #[.int .i64 (codeP fd s).1, .int .i64 (codeP fd s).2, .int .i64 (tailP d).1, .int .i64 (tailP d).2] 42)
  have hn3 := Blk.new w2 42 #[.int .i64 (codeP fd s).1, .int .i64 (codeP fd s).2, .int .i64 (tailP d).1, .int .i64 (tailP d).2]
  have hb3 := hst2.size
  generalize w2.alloc (.cells #[.int .i64 (codeP fd s).1, .int .i64 (codeP fd s).2, .int .i64 (tailP d).1, .int .i64 (tailP d).2] 42) = w3 at *
  refine hK'.out _ _ hst3.d (fun hS5 => ?_)
  clear hK' K' hS5 hst2
  refine wpAnyH_ready (rs := [7]) (by kernel_rfl) (by simp) ?_
  refine AllReadyH.cons rfl (fun K' hK' => ?_) AllReadyH.nil
  rw [if_pos (by rfl)]
  refine wp_bslice 39 45 1 _ rfl Try.underlying39 #[.slice (some ⟨w2.heap.size, 0, none⟩) 2 2] (by kernel_rfl) ?_
  have hst4 := hst3.alloc (.cells #[.slice (some ⟨w2.heap.size, 0, none⟩) 2 2] 45)
  have hro := rows_one (base := W.heap.size + 3) (r := [codeP fd s, tailP d]) (hn3.alloc (.cells #[.slice (some ⟨w2.heap.size, 0, none⟩) 2 2] 45)) (Blk.new w3 45 #[.slice (some ⟨w2.heap.size, 0, none⟩) 2 2]) hb3 hst3.size rfl (by decide) rfl
  generalize w3.alloc (.cells #[.slice (some ⟨w2.heap.size, 0, none⟩) 2 2] 45) = w4 at *
  refine hK'.out _ _ hst4.d (fun hS5 => ?_)
  clear hK' K' hS5 hst3 hn3 hb3
  obtain ⟨v10, hv10⟩ : ∃ v10, v10 = Value.slice (some ⟨w3.heap.size, 0, none⟩) 1 1 := ⟨_, rfl⟩
  refine wpAnyH_take (i := 8) (oi := ⟨some 10, _, _, _, _, _⟩) (v := v10) rfl (by kernel_rfl) (by kernel_rfl) (by kernel_rfl) (fun c a w h => h) (Or.inl ⟨by rfl, fun w _ => by rw [hv10]; rfl⟩) hst4.d ?_
  rw [← hv10] at hro
  refine wpAnyH_done (by kernel_rfl) ?_ _
  refine hK _ _ ?_
  clear hK K
  simp only [Act.put, List.setIfInBounds_toArray]
  clear hv10
  go_wp2_with fail
  clear hst hc0 hsz3
  go_loopw [10, 11, 29] (fun v10 v11 v29 (w : World) => ∃ (i run : Nat) (rows : List (List (Int × Int))), i ≤ 63 ∧ v29 = .int .i64 i ∧ run ≤ i ∧ v11 = .int .i64 run ∧ GSt W cz cd ca w ∧ rows.length ≤ i + 1 ∧ RowsAt w (W.heap.size + 3) v10 rows ∧ G = rows ++ grpS fa (z.drop (i + 1)) run) (fun _ _ v29 _ => 63 - (intOf v29).toNat)
  case atStart => exact ⟨0, 0, _, by omega, rfl, by omega, rfl, hst4, by simp, hro, HG.out⟩
  case round =>
    clear hst4 hro HG
    obtain ⟨i, run, rows, hi, rfl, hrun, rfl, hst, hrl, hro, hG⟩ := hrel
    have HG := Lib.hid hG
    clear hG
    by_cases hlt : i < 63
    · obtain ⟨x, hx⟩ : ∃ x, x = z.getD (i + 1) 0 := ⟨_, rfl⟩
      have hcx : wr.cell? ⟨W.heap.size, 1 + i, none⟩ = some (.int .i64 x) := by rw [hst.z.cell, Nat.add_comm 1 i, hx]; exact HZAT.out (i + 1) (by omega)
      obtain ⟨x0, x1⟩ := HZ.out.all (i + 1) (by omega)
      rw [← hx] at x0 x1
      have hdr : z.drop (i + 1) = x :: z.drop (i + 1 + 1) := by rw [hx]; exact drop_getD z (i + 1) (by rw [HZ.out.len]; omega)
      have hG := HG.out
      rw [hdr, grpS] at hG
      clear HG hx hdr
      by_cases hx0 : x = 0
      · subst hx0
        rw [if_pos rfl] at hG
        have HG := Lib.hid hG
        clear hG
        go_wp2_with fail
        go_roundw
        case rel => exact ⟨i + 1, run + 1, rows, by omega, by go_num, by omega, by go_num, hst, by omega, hro, HG.out⟩
        case measure => simp [intOf]; omega
      · rw [if_neg hx0] at hG
        have HG := Lib.hid hG
        have hxe : (x == 0) = false := by simpa using hx0
        clear hG
        go_wp2_with fail
        have hdec : decide ((i : Int) < 63) = true := decide_eq_true (by omega)
        rw [hdec]
        generalize wr = wo at *
        go_loopw [11, 14] (fun v11 v14 (w : World) => ∃ j : Nat, 16 * j ≤ run ∧ v11 = .int .i64 ((run - 16 * j : Nat) : Int) ∧ w.ownsRow wo.heap.size 42 2 v14 j (rowCells (List.replicate j (codeP fa 240))) ∧ Below wo.heap.size wo w) (fun v11 _ _ => (intOf v11).toNat)
        case atStart => exact ⟨0, by omega, rfl, World.ownsRow_nil _ _ _ _, Below.refl _ _⟩
        case round =>
          obtain ⟨j, hj, rfl, hown, hbi⟩ := hrel
          have hsti := hst.below hbi hst.size
          have hsz := hbi.size
          have hszo := hst.size
          by_cases hmore : 16 * j + 16 ≤ run
          · have hge : (15 : Int) < ((run - 16 * j : Nat) : Int) := by omega
            have hrun' : ((run - 16 * j : Nat) : Int) ≤ 64 := by omega
            obtain ⟨y, hy⟩ : ∃ y : Int, ((run - 16 * j : Nat) : Int) = y := ⟨_, rfl⟩
            rw [hy] at hge hrun' ⊢
            have HY := Lib.hid hy
            have hB240 := HRA.out _ hsti.a 240 (by omega)
            have hnb := Blk.new wr 42 (rowCells [codeP fa 240]).toArray
            have hown2 : (wr.alloc (.cells (rowCells [codeP fa 240]).toArray 42)).ownsRow wo.heap.size 42 2 u14 j (rowCells (List.replicate j (codeP fa 240))) := own_grown hown (World.grownBy_alloc _ _ none) (fun _ _ => by simp)
            have hbi2 := hbi.alloc hsz (.cells (rowCells [codeP fa 240]).toArray 42)
            clear hy
            go_wp2_with (first | (refine wpList_load_mid rfl 42 (.tmp 42) rfl (W.heap.size + 1 + 1) 480 rfl [_, _] _ hB240 Try.underlying42 rfl (by kernel_rfl) ?_) | (refine Great.wpList_buildSliceTo rfl 45 42 1 _ rfl wr.heap.size rfl (some 44) rfl Try.underlying45 (rowCells [codeP fa 240]).toArray (by kernel_rfl) ?_) | (refine append42 rfl (.tmp 41) (.tmp 44) rfl wo.heap.size u14 j (List.replicate j (codeP fa 240)) rfl hown2 wr.heap.size 1 [codeP fa 240] rfl hnb rfl (by omega) (by simp; omega) ?_; intro v' w' hown3 hg3))
            have hb3 := below_own hown2 hg3 (Nat.le_refl _) (by simp; omega)
            go_roundw
            case rel => exact ⟨j + 1, by omega, by have := HY.out; congr 1; omega, by rw [List.replicate_succ']; exact hown3, hbi2.trans hb3⟩
            case measure => simp [intOf]; omega
          · have hle : ((run - 16 * j : Nat) : Int) ≤ 15 := by omega
            obtain ⟨m, hm⟩ : ∃ m : Nat, m = run - 16 * j := ⟨_, rfl⟩
            have hm16 : m < 16 := by omega
            rw [← hm] at hle ⊢
            have HM := Lib.hid hm
            clear hm
            have q0 := sizeS_nonneg x
            have q1 := sizeS_le x 10 (by omega) (by omega)
            obtain ⟨sx, hsx⟩ : ∃ sx : Nat, sizeS x = sx := ⟨(sizeS x).toNat, by omega⟩
            have hs16 : sx < 16 := by omega
            have HSX := Lib.hid hsx
            clear hsx q0 q1
            go_wp2_with fail
            rename_i K hK
            have hst1 := hsti.drew
            obtain ⟨hs, hhl, hho, hhi⟩ := hro
            have hho1 := own_below hho hbi (Nat.le_refl _)
            have hhi1 := fun i u r h1 h2 => own_below (hhi i u r h1 h2) hbi (Nat.le_refl _)
            have hbase : W.heap.size + 3 ≤ wo.heap.size := hszo
            clear hst hsti
            refine wp_region_noPanic ?_
            refine wp_region_held (S := fun w => Blk w (W.heap.size + 1 + 1) 43 ca) (by kernel_rfl) ?_
            show wpAnyH _ _ _ _ _ _ _ _ wr.drew
            refine wpAnyH_take (i := 0) (oi := ⟨some 46, _, _, _, _, _⟩) (v := u10) rfl (by kernel_rfl) (by kernel_rfl) (by kernel_rfl) (fun c a w h => h) (Or.inl ⟨by rfl, fun w _ => rfl⟩) hst1.a ?_
            simp only [Act.put, List.setIfInBounds_toArray, List.set_cons_zero, List.set_cons_succ]
            refine wpAnyH_take (i := 1) (oi := ⟨some 47, _, _, _, _, _⟩) (v := u14) rfl (by kernel_rfl) (by kernel_rfl) (by kernel_rfl) (fun c a w h => h) (Or.inl ⟨by rfl, fun w _ => rfl⟩) hst1.a ?_
            simp only [Act.put, List.setIfInBounds_toArray, List.set_cons_zero, List.set_cons_succ]
            refine wpAnyH_take (i := 2) (oi := ⟨some 48, _, _, _, _, _⟩) (v := .int .i64 m) rfl (by kernel_rfl) (by kernel_rfl) (by kernel_rfl) (fun c a w h => h) (Or.inl ⟨by rfl, fun w _ => rfl⟩) hst1.a ?_
            simp only [Act.put, List.setIfInBounds_toArray, List.set_cons_zero, List.set_cons_succ]
            refine wpAnyH_take (i := 3) (oi := ⟨some 49, _, _, _, _, _⟩) (v := .int .i64 ((16 * m : Nat) : Int)) rfl (by kernel_rfl) (by kernel_rfl) (by kernel_rfl) (fun c a w h => h) (Or.inl ⟨by rfl, fun w _ => shl_4 m hm16 _ w _ rfl rfl⟩) hst1.a ?_
            simp only [Act.put, List.setIfInBounds_toArray, List.set_cons_zero, List.set_cons_succ]
            refine wpAnyH_take (i := 4) (oi := ⟨some 50, _, _, _, _, _⟩) (v := .int .i64 x) rfl (by kernel_rfl) (by kernel_rfl) (by kernel_rfl) (fun c a w h => h) (Or.inl ⟨by rfl, fun w _ => rfl⟩) hst1.a ?_
            simp only [Act.put, List.setIfInBounds_toArray, List.set_cons_zero, List.set_cons_succ]
            refine wpAnyH_take (i := 9) (oi := ⟨some 55, _, _, _, _, _⟩) (v := .int .i64 x) rfl (by kernel_rfl) (by kernel_rfl) (by kernel_rfl) (fun c a w h => h) (Or.inl ⟨by rfl, fun w _ => rfl⟩) hst1.a ?_
            simp only [Act.put, List.setIfInBounds_toArray, List.set_cons_zero, List.set_cons_succ]
            refine wpAnyH_ready (rs := [5]) (by kernel_rfl) (by simp) ?_
            refine AllReadyH.cons rfl (fun K' hK' => ?_) AllReadyH.nil
            go_simp
            refine (size_any x _ (by omega) (by omega)).mono ?_
            rintro e w5 ⟨rfl, rfl⟩
            rw [HSX.out]
            refine hK'.out _ _ hst1.a (fun hS5 => ?_)
            clear hK' K' hS5
            have hor := or_16 m hm16 sx hs16
            refine wpAnyH_take (i := 6) (oi := ⟨some 52, _, _, _, _, _⟩) (v := .int .i64 ((16 * m + sx : Nat) : Int)) rfl (by kernel_rfl) (by kernel_rfl) (by kernel_rfl) (fun c a w h => h) (Or.inl ⟨by rfl, fun w _ => by rw [← hor]; rfl⟩) hst1.a ?_
            simp only [Act.put, List.setIfInBounds_toArray, List.set_cons_zero, List.set_cons_succ]
            refine wpAnyH_take (i := 7) (oi := ⟨some 53, _, _, _, _, _⟩) (v := .pointer (some ⟨W.heap.size + 1 + 1, (16 * m + sx) * 2, none⟩)) rfl (by kernel_rfl) (by kernel_rfl) (by kernel_rfl) (fun c a w h => h) (yieldsIf_index43 (by rfl) (.tmp 7) (.tmp 52) rfl (W.heap.size + 1 + 1) (16 * m + sx) (by omega) rfl rfl) hst1.a ?_
            simp only [Act.put, List.setIfInBounds_toArray, List.set_cons_zero, List.set_cons_succ]
            refine wpAnyH_take (i := 8) (oi := ⟨some 54, _, _, _, _, _⟩) (v := .agg #[.int .i64 (codeP fa (16 * m + sx)).1, .int .i64 (codeP fa (16 * m + sx)).2]) rfl (by kernel_rfl) (by kernel_rfl) (by kernel_rfl) (fun c a w h => h) (yieldsIf_load_mid (by rfl) 42 (.tmp 53) rfl (W.heap.size + 1 + 1) ((16 * m + sx) * 2) rfl [_, _] _ (fun w h => HRA.out w h (16 * m + sx) (by omega)) Try.underlying42 rfl (by kernel_rfl)) hst1.a ?_
            simp only [Act.put, List.setIfInBounds_toArray, List.set_cons_zero, List.set_cons_succ]
            refine wpAnyH_ready (rs := [10]) (by kernel_rfl) (by simp) ?_
            refine AllReadyH.cons rfl (fun K' hK' => ?_) AllReadyH.nil
            go_simp
            refine (tail_any x _ (by omega) (by omega)).mono ?_
            rintro e w6 ⟨rfl, hb6⟩
            have hst6 := hst1.below hb6 hst1.size
            have hho6 := own_below hho1.drew hb6 (Nat.le_refl _)
            have hhi6 := fun i u r h1 h2 => own_below (hhi1 i u r h1 h2).drew hb6 (Nat.le_refl _)
            have hown6 := own_below hown.drew hb6 (Nat.le_refl _)
            have hsz6 : wo.heap.size ≤ w6.heap.size := Nat.le_trans hsz hb6.size
            refine hK'.out _ _ hst6.a (fun hS5 => ?_)
            clear hK' K' hS5 hb6 hst1
            obtain ⟨q, hq⟩ : ∃ q, q = [codeP fa (16 * m + sx), tailP x] := ⟨_, rfl⟩
            have hql : q.length = 2 := by rw [hq]; rfl
            refine wpAnyH_ready (rs := [11]) (by kernel_rfl) (by simp) ?_
            refine AllReadyH.cons rfl (fun K' hK' => ?_) AllReadyH.nil
            rw [if_pos (by rfl)]
            refine wp_bslice 45 42 2 _ rfl Try.underlying45 (rowCells q).toArray (by rw [hq]; kernel_rfl) ?_
            have hst7 := hst6.alloc (.cells (rowCells q).toArray 42)
            have hn7 := Blk.new w6 42 (rowCells q).toArray
            have hb7 : Below w6.heap.size w6 (w6.alloc (.cells (rowCells q).toArray 42)) := (Below.refl _ _).alloc (Nat.le_refl _) _
            have hho7 := own_below hho6 hb7 (Nat.le_refl _)
            have hhi7 := fun i u r h1 h2 => own_below (hhi6 i u r h1 h2) hb7 (Nat.le_refl _)
            have hown7 := own_below hown6 hb7 (Nat.le_refl _)
            have hsz7 : wo.heap.size ≤ (w6.alloc (.cells (rowCells q).toArray 42)).heap.size := Nat.le_trans hsz6 hb7.size
            generalize w6.alloc (.cells (rowCells q).toArray 42) = w7 at *
            refine hK'.out _ _ hst7.a (fun hS5 => ?_)
            clear hK' K' hS5 hb7 hst6 hho6 hhi6 hown6
            refine wpAnyH_ready (rs := [12]) (by kernel_rfl) (by simp) ?_
            refine AllReadyH.cons rfl (fun K' hK' => ?_) AllReadyH.nil
            rw [if_pos (by rfl)]
            refine wpo_append42 (.tmp 47) (.tmp 57) rfl wo.heap.size u14 j (List.replicate j (codeP fa 240)) rfl hown7 w6.heap.size 2 q rfl hn7 hql (by omega) hsz7 ?_
            intro v8 w8 hown8 hg8
            have hb8 := below_own hown7 hg8 (Nat.le_refl _) hsz7
            have hst8 := hst7.below hb8 hbase
            have hho8 := own_grown hho7 hg8 (own_apart hho7 hown7 (by decide))
            have hhi8 : ∀ (i : Nat) (u : Value) (r : List (Int × Int)), hs[i]? = some u → rows[i]? = some r → w8.ownsRow (W.heap.size + 3) 42 2 u r.length (rowCells r) := fun i u r h1 h2 => own_grown (hhi7 i u r h1 h2) hg8 (fun g e1 e2 => by
              have a1 := own_lt (hhi i u r h1 h2) g e1
              have a2 := own_ge hown7 g e2
              omega)
            refine hK'.out _ _ hst8.a (fun hS5 => ?_)
            clear hK' K' hS5 hst7 hn7 hho7 hhi7 hown7 hg8
            obtain ⟨g8, c8, rfl⟩ := own_slice hown8 (by omega)
            refine wpAnyH_ready (rs := [13]) (by kernel_rfl) (by simp) ?_
            refine AllReadyH.cons rfl (fun K' hK' => ?_) AllReadyH.nil
            rw [if_pos (by rfl)]
            refine wp_bslice 39 45 1 _ rfl Try.underlying39 #[.slice (some ⟨g8, 0, none⟩) (j + 2) c8] (by kernel_rfl) ?_
            have hst9 := hst8.alloc (.cells #[.slice (some ⟨g8, 0, none⟩) (j + 2) c8] 45)
            have hn9 := Blk.new w8 45 #[.slice (some ⟨g8, 0, none⟩) (j + 2) c8]
            have hb9 : Below w8.heap.size w8 (w8.alloc (.cells #[.slice (some ⟨g8, 0, none⟩) (j + 2) c8] 45)) := (Below.refl _ _).alloc (Nat.le_refl _) _
            have hho9 := own_below hho8 hb9 (Nat.le_refl _)
            have hhi9 := fun i u r h1 h2 => own_below (hhi8 i u r h1 h2) hb9 (Nat.le_refl _)
            have hown9 := own_below hown8 hb9 (Nat.le_refl _)
            generalize w8.alloc (.cells #[.slice (some ⟨g8, 0, none⟩) (j + 2) c8] 45) = w9 at *
            refine hK'.out _ _ hst9.a (fun hS5 => ?_)
            clear hK' K' hS5 hb9 hst8 hho8 hhi8 hown8
            refine wpAnyH_ready (rs := [14]) (by kernel_rfl) (by simp) ?_
            refine AllReadyH.cons rfl (fun K' hK' => ?_) AllReadyH.nil
            rw [if_pos (by rfl)]
            refine wpo_append45 (.tmp 46) (.tmp 59) rfl (W.heap.size + 3) u10 rows.length hs rfl hho9 w8.heap.size _ rfl hn9 rfl (by omega) hst9.size ?_
            intro v10' w10 hho10 hg10
            have hst10 := hst9.grown hho9 hg10
            have hro10 := rows_push (r := List.replicate j (codeP fa 240) ++ q) hhl hho9 hhi9 (own_base (by rw [List.length_append, List.length_replicate, hql]; exact hown9) hbase) hg10 hho10
            refine hK'.out _ _ hst10.a (fun hS5 => ?_)
            clear hK' K' hS5 hst9 hho9 hhi9 hown9 hn9 hho10 hg10
            refine wpAnyH_take (i := 15) (oi := ⟨some 10, _, _, _, _, _⟩) (v := v10') rfl (by kernel_rfl) (by kernel_rfl) (by kernel_rfl) (fun c a w h => h) (Or.inl ⟨by rfl, fun w _ => rfl⟩) hst10.a ?_
            refine wpAnyH_done (by kernel_rfl) ?_ _
            refine hK _ _ ?_
            simp only [Act.put, List.setIfInBounds_toArray]
            have hrg := rowG_at fa run j m sx x HM.out hj hm16 HSX.out
            rw [← hq] at hrg
            rw [← hrg] at hro10
            have HG2 : Hid (G = (rows ++ [rowG fa run x]) ++ grpS fa (z.drop (i + 1 + 1)) 0) := Lib.hid (by rw [List.append_assoc]; exact HG.out)
            clear hK K hq hrg hhl hhi
            go_wp2_with fail
            go_roundw
            case rel => exact ⟨i + 1, 0, _, by omega, by go_num, by omega, rfl, hst10, by simp; omega, hro10, HG2.out⟩
            case measure => simp [intOf]; omega
    · obtain rfl : i = 63 := by omega
      have hG := HG.out
      rw [List.drop_eq_nil_of_le (by rw [HZ.out.len]; omega), grpS] at hG
      by_cases hr0 : 0 < run
      · rw [if_pos hr0] at hG
        have HG2 := Lib.hid hG
        have hrp : (0 : Int) < (run : Int) := by omega
        have hB0 := HRA.out _ hst.a 0 (by omega)
        have hst2 := hst.alloc (.cells (rowCells [codeP fa 0]).toArray 42)
        have hn2 := Blk.new wr 42 (rowCells [codeP fa 0]).toArray
        have hro2 := hro.below (w' := wr.alloc (.cells (rowCells [codeP fa 0]).toArray 42)) ((Below.refl _ _).alloc (Nat.le_refl _) _) (Nat.le_refl _)
        have hsz2 : (wr.alloc (.cells (rowCells [codeP fa 0]).toArray 42)).heap.size = wr.heap.size + 1 := by simp
        have hb2 := hst.size
        obtain ⟨w2', hw2'⟩ : ∃ w2', w2' = wr.alloc (.cells (rowCells [codeP fa 0]).toArray 42) := ⟨_, rfl⟩
        rw [← hw2'] at hst2 hn2 hro2 hsz2
        have hst3 := hst2.alloc (.cells #[.slice (some ⟨wr.heap.size, 0, none⟩) 1 1] 45)
        have hn3 := Blk.new w2' 45 #[.slice (some ⟨wr.heap.size, 0, none⟩) 1 1]
        have hr3 := own_base (b := W.heap.size + 3) (own_new (size := 2) (base := wr.heap.size) (m := 1) (hn2.alloc (.cells #[.slice (some ⟨wr.heap.size, 0, none⟩) 1 1] 45)) (Nat.le_refl _) (by decide) rfl) hb2
        obtain ⟨hs, hhl, hho, hhi⟩ := hro2.below (w' := w2'.alloc (.cells #[.slice (some ⟨wr.heap.size, 0, none⟩) 1 1] 45)) ((Below.refl _ _).alloc (Nat.le_refl _) _) (Nat.le_refl _)
        obtain ⟨w3', hw3'⟩ : ∃ w3', w3' = w2'.alloc (.cells #[.slice (some ⟨wr.heap.size, 0, none⟩) 1 1] 45) := ⟨_, rfl⟩
        rw [← hw3'] at hst3 hn3 hr3 hho hhi
        have HW2 := Lib.hid hw2'
        have HW3 := Lib.hid hw3'
        clear hG HG hw2' hw3' hro hro2 hst hst2 hsz2
        go_wp2_with (first | (refine wpList_load_mid rfl 42 (.tmp 65) rfl (W.heap.size + 1 + 1) 0 rfl [_, _] _ hB0 Try.underlying42 rfl (by kernel_rfl) ?_) | (refine Great.wpList_buildSliceTo rfl 45 42 1 _ rfl wr.heap.size rfl (some 67) rfl Try.underlying45 (rowCells [codeP fa 0]).toArray (by kernel_rfl) ?_; rw [← HW2.out]) | (refine Great.wpList_buildSliceTo rfl 39 45 1 _ rfl w2'.heap.size rfl (some 68) rfl Try.underlying39 #[.slice (some ⟨wr.heap.size, 0, none⟩) 1 1] (by kernel_rfl) ?_; rw [← HW3.out]) | (refine wpList_plain rfl fun K' hK' => wpo_append45 (.tmp 64) (.tmp 68) rfl (W.heap.size + 3) u10 rows.length hs rfl hho w2'.heap.size _ rfl hn3 rfl (by omega) hst3.size fun v' w' hho4 hg4 => hK' _ _ ?_))
        have hst4 := hst3.grown hho hg4
        have hro4 := rows_push (r := [codeP fa 0]) hhl hho hhi hr3 hg4 hho4
        go_ret
        refine ⟨_, rfl, ?_, hst4.b⟩
        rw [HG2.out]
        exact hro4.base (by omega)
      · obtain rfl : run = 0 := by omega
        rw [if_neg (by omega), List.append_nil] at hG
        have HG2 := Lib.hid hG
        clear hG HG
        go_wp2_with fail
        go_ret
        refine ⟨_, rfl, ?_, hst.b⟩
        rw [HG2.out]
        exact hro.base (by omega)
end Go.Proofs.Ytbjcjddaaegheaa
