/- Best: the table of some numbers. -/
import Derived.Test.YtdkgficmodcolaaBestM
import Derived.Test.YtdkgficmodcolaaSizesW
import Derived.Test.YtdkgficmodcolaaStable
import Derived.Test.YtdkgficmodcolaaTab
import Derived.Deep.RegionLaw
import Derived.Deep.CutBlock
import Derived.Laws.IdiomCopy
namespace Go.Proofs.Ytdkgficmodcolaa
open Go.RowKit

theorem size45 (z : List Int) (h : z.length = 258) : (Try.prog.info? 45).map (·.size) = some (intsC z).size := by rw [intsC_size, h]; kernel_rfl
theorem zero45 : ∀ w, (zeroValue 45).run Try.prog w = .ok (.agg (intsC (List.replicate 258 0))) w := fun w => by kernel_rfl
theorem zero30 : ∀ w, (zeroValue 30).run Try.prog w = .ok (.agg (tabCells (List.replicate 16 0) (.slice none 0 0))) w := fun w => by kernel_rfl
theorem size30 (z : List Int) (v : Value) (h : z.length = 16) : (Try.prog.info? 30).map (·.size) = some (tabCells z v).size := by rw [tabCells_size z v h]; kernel_rfl
theorem tabCells_set (ct : List Int) (v : Value) (q : Nat) (x : Int) (hq : q < ct.length) : (tabCells ct v).setIfInBounds q (.int .i64 x) = tabCells (ct.set q x) v := by
  apply Array.ext'
  simp only [tabCells, Array.toList_setIfInBounds]
  rw [List.set_append_left _ _ (by simpa using hq), List.map_set]
theorem tabCells_set16 (ct : List Int) (v u : Value) (hc : ct.length = 16) : (tabCells ct v).setIfInBounds 16 u = tabCells ct u := by
  apply Array.ext'
  simp only [tabCells, Array.toList_setIfInBounds]
  rw [List.set_append_right _ _ (by simp [hc])]
  simp [hc]
theorem tabCells_one (ct : List Int) (v : Value) (hv : v.oneCell' = true) : (tabCells ct v).all (·.oneCell') = true := by
  refine all_one_of fun i u h => ?_
  have hm := Array.mem_of_getElem? h
  simp only [tabCells, List.mem_toArray, List.mem_append, List.mem_map, List.mem_singleton] at hm
  rcases hm with ⟨x, _, rfl⟩ | rfl
  · rfl
  · exact hv
theorem run_index43 {a : Act} {w : World} {o : Oper} (x i : Operand) (ho : o.op = .index 43 x i) (z : List Int) (k : Nat) (hk : k < 257) (hz : z.length = 257) (hx : a.eval x = .agg (intsC z)) (hi : a.eval i = .int .i64 k) : (execOp a.eval o).run Try.prog w = .ok (.value (.int .i64 (z.getD k 0))) w := by
  unfold execOp
  simp only [ho, hx, hi, Sem.run_bind, run_index_arr (P := Try.prog) 43 3 257 (intsC z) .i64 k (.int .i64 (z.getD k 0)) Try.underlying43 hk (by kernel_rfl) Try.underlying3 (intsC_at z k (by omega)) w, Result.andThen_ok, Sem.run_pure]
theorem info5 : (Try.prog.info? 5).map (fun i => (i.zero, i.size, i.bytes)) = some (some (.int .u8 0), 1, 1) := by kernel_rfl
theorem step_copy_eq {P : Program} {ops : Array Oper} {o : Oper} {a : Act} {w : World} {K : Act → World → Prop} {Q : Exit → Act → World → Prop} {E : Prop}
    (hg : o.guard = none) (d x : Operand) (dT sT : TypeId) (hop : o.op = Op.call { callee := Callee.builtin Builtin.copy, args := #[d, x], argTypes := #[dT, sT] })
    (v u : Value) (hd : a.eval d = v) (hx : a.eval x = u) {v' : Value} {w' : World} (hr : (Builtin.copy_ #[dT, sT] o.type #[v, u]).run P w = .ok v' w') (hK : K (a.put o.dst v') w') :
    if Region.wanted o (yielded ops a.tmps) = true then Oper.wp P o a w K Q else E := by
  have hw : Region.wanted o (yielded ops a.tmps) = true := by simp [Region.wanted, hg]
  rw [if_pos hw]
  unfold Oper.wp
  simp [execOp, hop, resolve, invoke, builtin, hd, hx, hr, Result.andThen]
  exact hK
/-- the counts are copied -/
theorem copy_counts (gt gn : Nat) (n : List Int) (w : World) (hn : n.length = 258) (hB : Blk w gt 30 (tabCells (List.replicate 16 0) (.slice none 0 0))) (hN : Blk w gn 45 (intsC n)) :
    (Builtin.copy_ #[23, 23] 3 #[.slice (some ⟨gt, 0, none⟩) 16 16, .slice (some ⟨gn, 1, none⟩) 16 257]).run Try.prog w = .ok (.int .i64 16) (w.setRow gt (tabCells ((n.drop 1).take 16) (.slice none 0 0))) := by
  have hl : ((n.drop 1).take 16).length = 16 := by rw [List.length_take, List.length_drop]; omega
  have := run_copy_row (P := Try.prog) w 23 23 3 3 gt 0 16 16 ⟨gn, 1, none⟩ 16 257 _ 30 (((n.drop 1).take 16).map (Value.int .i64)) Try.underlying23 (by kernel_rfl) hB (by rw [List.length_map, hl]; rfl) (fun j v hv => by
    rw [List.getElem?_map] at hv
    obtain ⟨x, hx, rfl⟩ := Option.map_eq_some_iff.1 hv
    have hj := (List.getElem?_eq_some_iff.1 hx).1
    have ea : (⟨gn, 1, none⟩ : Addr).add j = ⟨gn, 1 + j, none⟩ := by unfold Addr.add; split <;> simp_all
    rw [ea, hN.cell, intsC_at n (1 + j) (by omega)]
    rw [List.getElem?_take_of_lt (by omega), List.getElem?_drop] at hx
    rw [List.getD_eq_getElem?_getD, hx]; rfl) (by rw [List.length_map, hl, tabCells_size _ _ (by simp)]; omega) (fun v hv => by
    obtain ⟨x, _, rfl⟩ := List.mem_map.1 hv; rfl)
  rw [this, List.length_map, hl]
  congr 2
/-- what Best gives -/
structure BestOut (w' : World) (ws : List Int) (v : Value) : Prop where
  ex : ∃ (R n : List Int) (ys : List Nat) (A : Option Addr) (c : Nat), v = .agg (tabCells (decA ((n.drop 1).take 16) 16) (.slice A ys.length c)) ∧ SizesOk ws R ∧ ShI (histS R) n 16 ∧ ys.Perm (comes R 256) ∧ Srt (keyS R) ys 0 ys.length ∧ Reads w' w'.heap.size 1 A ys.length (bytesN ys)

set_option maxRecDepth 100000 in
set_option maxHeartbeats 1600000 in
theorem best_any (A : Option Addr) (c len : Nat) (l : List Int) (W : World) (hlen : l.length = len) (hw : WfInts l) (hr : Reads W W.heap.size 1 A len (l.map (Value.int .i64))) (hl : len ≤ 9223372036854775807) :
    Calls Try.prog 11 #[.slice A len c] W fun e w' => ∃ v, e = .returned v ∧ BestOut w' (weightsS l) v ∧ Below W.heap.size W w' := by
  have KS := Lib.hid (fun w (h : Below W.heap.size W w) => sizes_any A c len l w hlen hw ((hr.below h).more h.size) hl)
  have hz43 := zero43
  have hsz43 : (Try.prog.info? 43).map (·.size) = some (intsC (List.replicate 257 0)).size := size43 _ (by simp)
  obtain ⟨z43, hz43'⟩ : ∃ z, z = intsC (List.replicate 257 0) := ⟨_, rfl⟩
  rw [← hz43'] at hz43 hsz43
  have HZ43 := Lib.hid hz43'
  have hz45 := zero45
  obtain ⟨z45, hz45'⟩ : ∃ z, z = intsC (List.replicate 258 0) := ⟨_, rfl⟩
  rw [← hz45'] at hz45
  have HZ45 := Lib.hid hz45'
  have hz30 := zero30
  have hsz30 := size30 (List.replicate 16 0) (.slice none 0 0) (by simp)
  obtain ⟨z30, hz30'⟩ : ∃ z, z = tabCells (List.replicate 16 0) (.slice none 0 0) := ⟨_, rfl⟩
  rw [← hz30'] at hz30 hsz30
  have HZ30 := Lib.hid hz30'
  have hbe0 : Below W.heap.size W (W.alloc (.cells z30 30)) := (Below.refl _ _).alloc (Nat.le_refl _) _
  have hBr : Blk (W.alloc (.cells z30 30)) W.heap.size 30 z30 := Blk.new W 30 z30
  have hwb := fun i => (weightsS_bd l i).1
  obtain ⟨ws, hws⟩ : ∃ ws, ws = weightsS l := ⟨_, rfl⟩
  rw [← hws] at hwb KS ⊢
  have HWB := Lib.hid hwb
  clear hz43' hz45' hz30' hr hw hws hwb
  go_enter Try.func11, Try.ntmps11
  go_wp2_with fail
  generalize W.alloc (.cells z30 30) = w1 at *
  refine (KS.out _ hbe0).mono ?_
  rintro e w2 ⟨R, rfl, hR, hRl, hb⟩
  have hok := sizes_ok HWB.out hR hRl
  have hs2 := size43 R hRl
  have hos2 : z43.size = (intsC R).size := by rw [HZ43.out, intsC_size, intsC_size, hRl]; simp
  have ho2 := intsC_one R
  have hB2 : Blk (w2.alloc (.cells z43 43)) w2.heap.size 43 z43 := Blk.new w2 43 z43
  have hBr2 := (hBr.below hb hBr.lt).alloc (.cells z43 43)
  have hbe2 := (hbe0.trans (hb.mono hbe0.size)).alloc (hbe0.trans (hb.mono hbe0.size)).size (.cells z43 43)
  have HOS2 := Lib.hid hos2
  have HOK := Lib.hid hok
  have hgs : W.heap.size < w2.heap.size := by have := hb.size; have := hBr.lt; omega
  clear hR hos2 hok hbe0 hBr hb
  go_wp2_with (first
    | (refine wpList_load_blk rfl 43 (.tmp 3) rfl w2.heap.size rfl 43 _ _ hR6 Try.underlying43 rfl hs2 ?_)
    | (refine wpList_store_blk rfl 43 (.tmp 3) (.tmp 12) rfl w2.heap.size rfl 43 _ _ rfl hB2 hs2 HOS2.out ho2 ?_
       intro w5 hR5 hg5 hs5
       have hR6 := hR5.alloc (.cells z45 45)))
  rw [World.size_alloc] at hs5
  have hBr6 := (hBr2.grown hg5 (fun e => by injection e with e; omega)).alloc (.cells z45 45)
  have hbe5 := hbe2.grown hg5 hbe2.size (fun k e => by injection e with e; omega)
  have hbe6 := hbe5.alloc hbe5.size (.cells z45 45)
  have hzb : Blk (w5.alloc (.cells z45 45)) w5.heap.size 45 (intsC (bump (List.replicate 258 0) (R.take 0))) := by
    have := Blk.new w5 45 z45
    rw [HZ45.out] at this ⊢
    exact this
  generalize w5.alloc (.cells z45 45) = w6 at *
  clear hB2 hBr2 hbe2 hg5 hR5 hbe5
  rw [hs5] at hzb
  clear hs5 w5
  generalize w2.heap.size = gs at *
  clear w2
  obtain ⟨gn, hgn⟩ : ∃ gn, gn = gs + 1 := ⟨_, rfl⟩
  rw [← hgn] at hzb ⊢
  have hgnb : gs < gn := by omega
  clear hgn
  go_loopw [6, 14] (fun _ v14 (w : World) => ∃ i : Nat, i ≤ 257 ∧ v14 = .int .i64 i ∧ Blk w gn 45 (intsC (bump (List.replicate 258 0) (R.take i))) ∧ w6.grownBy w (some gn)) (fun _ v14 _ => 257 - (intOf v14).toNat)
  case atStart => exact ⟨0, by omega, rfl, hzb, World.grownBy.refl _ _⟩
  case round =>
    clear hzb
    obtain ⟨i, hi, rfl, hBn, hg⟩ := hrel
    by_cases hlt : i < 257
    · obtain ⟨x, hx⟩ : ∃ x, x = R.getD i 0 := ⟨_, rfl⟩
      have HIX : Hid (∀ (a : Act) (w : World) (o : Oper), o.op = .index 43 (.tmp 13) (.tmp 14) → a.eval (.tmp 13) = .agg (intsC R) → a.eval (.tmp 14) = .int .i64 i → (execOp a.eval o).run Try.prog w = .ok (.value (.int .i64 x)) w) := Lib.hid (fun a w o h1 h2 h3 => by rw [hx]; exact run_index43 _ _ h1 R i hlt hRl h2 h3)
      obtain ⟨x0, x1⟩ := HOK.out.nn i
      rw [← hx] at x0 x1
      obtain ⟨xn, hxn⟩ : ∃ xn : Nat, x = xn := ⟨x.toNat, by omega⟩
      have hbs := bump_snoc (List.replicate 258 0) (R.take i) x
      rw [← take_more (l := R) (k := i) (x := x) (by rw [hx, List.getD_eq_getElem?_getD, List.getElem?_eq_getElem (by omega)]; rfl)] at hbs
      subst hxn
      rw [Int.toNat_natCast] at hbs
      have hbl : (bump (List.replicate 258 0) (R.take i)).length = 258 := by rw [bump_len, List.length_replicate]
      have c1 : wr.cell? ⟨gn, xn, none⟩ = some (.int .i64 ((bump (List.replicate 258 0) (R.take i)).getD xn 0)) := by rw [hBn.cell]; exact intsC_at _ xn (by omega)
      obtain ⟨y0, y1⟩ := bump_bd (R.take i) (List.replicate 258 0) 0 (fun i => by rw [List.getD_eq_getElem?_getD, List.getElem?_replicate]; split <;> simp) (by decide) xn
      have y2 : (bump (List.replicate 258 0) (R.take i)).getD xn 0 ≤ 300 := by rw [List.length_take] at y1; omega
      have f1 := hBn.frozen xn
      have hset := hBn.setI xn ((bump (List.replicate 258 0) (R.take i)).getD xn 0 + 1)
      rw [← hbs] at hset
      have hg2 := hg.trans (grown_setCell wr ⟨gn, xn, none⟩ (.int .i64 ((bump (List.replicate 258 0) (R.take i)).getD xn 0 + 1)))
      have xl : xn < 258 := by omega
      generalize (bump (List.replicate 258 0) (R.take i)).getD xn 0 = y at *
      have HSET := Lib.hid hset
      clear hx hBn hg hbs hbl y1 hset
      go_wp2_with (refine wpList_ran rfl (.int .i64 xn) (HIX.out _ _ _ rfl rfl rfl) ?_)
      go_roundw
      case rel => exact ⟨i + 1, by omega, by go_num, HSET.out, hg2⟩
      case measure => simp [intOf]; omega
    · obtain rfl : i = 257 := by omega
      rw [List.take_of_length_le (by omega)] at hBn
      have hshp := hist_shp HOK.out
      have hBn1 := hBn.setI 0 0
      have hhs : (bump (List.replicate 258 0) R).set 0 0 = histS R := rfl
      rw [hhs] at hBn1
      obtain ⟨y, hy⟩ : ∃ y, y = (bump (List.replicate 258 0) R).getD 0 0 := ⟨_, rfl⟩
      have c1 : wr.cell? ⟨gn, 0, none⟩ = some (.int .i64 y) := by rw [hy, hBn.cell]; exact intsC_at _ 0 (by rw [bump_len, List.length_replicate]; omega)
      have f1 := hBn.frozen 0
      have hg2 := hg.trans (grown_setCell wr ⟨gn, 0, none⟩ (.int .i64 0))
      have KSH := Lib.hid (shorten_any gn (histS R) _ hshp hBn1)
      clear hBn hBn1 hhs hy hshp
      go_wp2_with fail
      refine KSH.out.mono ?_
      rintro e w7 ⟨rfl, n, hsh, hB7, hg7⟩
      have hg8 := hg2.trans hg7
      have hR8 := hR6.grown hg8 (fun e => by injection e with e; omega)
      have hBr8 := hBr6.grown hg8 (fun e => by injection e with e; omega)
      have hbe8 := hbe6.grown hg8 hbe6.size (fun k e => by injection e with e; omega)
      have HSH := Lib.hid hsh
      clear hg hg2 hg7 hg8 KSH hsh c1 f1 hR6 hBr6 hbe6
      obtain ⟨gt, hgt⟩ : ∃ gt, gt = w7.heap.size := ⟨_, rfl⟩
      have hgtn : gn < gt := by have := hB7.lt; omega
      have hBt : Blk (w7.alloc (.cells z30 30)) gt 30 z30 := by rw [hgt]; exact Blk.new w7 30 z30
      have hBn9 := hB7.alloc (.cells z30 30)
      have hR9 := hR8.alloc (.cells z30 30)
      have hBr9 := hBr8.alloc (.cells z30 30)
      have hbe9 := hbe8.alloc hbe8.size (.cells z30 30)
      obtain ⟨ct, hct⟩ : ∃ ct, ct = (n.drop 1).take 16 := ⟨_, rfl⟩
      have hcp := copy_counts gt gn n (w7.alloc (.cells z30 30)).drew HSH.out.len (by rw [← HZ30.out]; exact hBt.drew) hBn9.drew
      rw [← hct, hgt] at hcp
      have hctl : ct.length = 16 := by rw [hct, List.length_take, List.length_drop, HSH.out.len]; rfl
      have hctb : ∀ i, 0 ≤ ct.getD i 0 ∧ ct.getD i 0 ≤ 257 := fun i => by
        by_cases hi16 : i < 16
        · have : ct.getD i 0 = n.getD (1 + i) 0 := by rw [hct, List.getD_eq_getElem?_getD, List.getElem?_take_of_lt hi16, List.getElem?_drop, ← List.getD_eq_getElem?_getD]
          rw [this]
          exact ⟨HSH.out.nn _, HSH.out.bd (hist_shp HOK.out) _⟩
        · rw [List.getD_eq_getElem?_getD, List.getElem?_eq_none (by omega)]; simp
      have hBt10 : Blk ((w7.alloc (.cells z30 30)).drew.setRow gt (tabCells ct (.slice none 0 0))) gt 30 (tabCells ct (.slice none 0 0)) := (hBt.drew).setRow
      have hg10 := grownBy_setRow (w7.alloc (.cells z30 30)).drew gt (tabCells ct (.slice none 0 0))
      have hR10 := hR9.drew.grown hg10 (fun e => by injection e with e; omega)
      have hBr10 := hBr9.drew.grown hg10 (fun e => by injection e with e; omega)
      have hbe10 := hbe9.drew.grown hg10 hbe9.size (fun k e => by injection e with e; omega)
      have HCT := Lib.hid hct
      have HCTL := Lib.hid hctl
      have HCTB := Lib.hid hctb
      clear hB7 hR8 hBr8 hbe8 hct hctl hctb hBt hBn9 hR9 hBr9 hbe9
      go_wp2_with fail
      go_region_law (first | (refine step_copy_eq (v := .slice (some ⟨w7.heap.size, 0, none⟩) 16 16) (u := .slice (some ⟨gn, 1, none⟩) 16 257) rfl (.tmp 27) (.tmp 28) 23 23 rfl ?hd ?hx ?hr ?_; (case hd => go_simp); (case hx => go_simp); (case hr => (exact hcp))))
      subst hgt
      generalize (w7.alloc (.cells z30 30)).drew.setRow w7.heap.size (tabCells ct (.slice none 0 0)) = w10 at *
      clear hg10 hcp
      generalize w7.heap.size = gt at *
      clear w7
      go_upto_block 2 with fail
      go_cut [8] from 30 to 45 (fun _ (w : World) => Blk w gt 30 (tabCells (decA ct 16) (.slice none 0 0)) ∧ w10.grownBy w (some gt))
      case first =>
        go_wp2_with fail
        go_loopw [8] (fun v8 (w : World) => ∃ k : Nat, k ≤ 16 ∧ v8 = .int .i64 ((k : Int) - 1) ∧ w = w10 ∧ decA ct 16 = decA ct k) (fun v8 _ => (intOf v8 + 1).toNat)
        case atStart => exact ⟨16, by omega, rfl, rfl, rfl⟩
        case round =>
          obtain ⟨k, hk, rfl, rfl, hdec⟩ := hrel
          by_cases hk0 : k = 0
          · subst hk0
            replace hdec : decA ct 16 = ct := hdec
            rw [← hdec] at hBt10
            have HB := Lib.hid hBt10
            clear hdec hBt10 hR10 hBr10 hbe10
            go_wp2_with fail
            go_meet
            case rel => exact ⟨HB.out, World.grownBy.refl _ _⟩
          · obtain ⟨q, rfl⟩ : ∃ q, k = q + 1 := ⟨k - 1, by omega⟩
            have eq1 : ((q + 1 : Nat) : Int) - 1 = (q : Int) := by omega
            have ql : q < 16 := by omega
            have c1 : wr.cell? ⟨gt, q, none⟩ = some (.int .i64 (ct.getD q 0)) := by rw [hBt10.cell]; exact tabCells_at ct _ q (by rw [HCTL.out]; exact ql)
            have f1 := hBt10.frozen q
            obtain ⟨x0, x1⟩ := HCTB.out q
            replace hdec := hdec.trans (show decA ct (q + 1) = (if 0 < ct.getD q 0 then ct.set q (ct.getD q 0 - 1) else decA ct q) from rfl)
            have hset := hBt10.set_ q (.int .i64 (ct.getD q 0 - 1))
            have hcs : (tabCells ct (.slice none 0 0)).setIfInBounds q (.int .i64 (ct.getD q 0 - 1)) = tabCells (ct.set q (ct.getD q 0 - 1)) (.slice none 0 0) := tabCells_set ct _ q _ (by rw [HCTL.out]; exact ql)
            rw [hcs] at hset
            have hgs2 := grown_setCell wr ⟨gt, q, none⟩ (.int .i64 (ct.getD q 0 - 1))
            generalize ct.getD q 0 = x at *
            by_cases hpos : 0 < x
            · rw [if_pos hpos] at hdec
              rw [← hdec] at hset
              have HB := Lib.hid hset
              clear hdec hset hcs hBt10 hR10 hBr10 hbe10
              go_wp2_with fail
              go_meet
              case rel => exact ⟨HB.out, hgs2⟩
            · rw [if_neg hpos] at hdec
              have HD := Lib.hid hdec
              clear hdec hset hcs hgs2 hBt10 hR10 hBr10 hbe10
              go_wp2_with fail
              go_roundw
              case rel => exact ⟨q, by omega, by go_num, trivial, HD.out⟩
              case measure => simp [intOf]
      case rest =>
        obtain ⟨hBt11, hg11⟩ := hcut
        have hR11 := hR10.grown hg11 (fun e => by injection e with e; omega)
        have hBr11 := hBr10.grown hg11 (fun e => by injection e with e; omega)
        have hbe11 := hbe10.grown hg11 hbe10.size (fun k e => by injection e with e; omega)
        obtain ⟨dt, hdt⟩ : ∃ dt, dt = decA ct 16 := ⟨_, rfl⟩
        rw [← hdt] at hBt11
        have hdtl : dt.length = 16 := by rw [hdt, decA_len, HCTL.out]
        rw [HCT.out] at hdt
        have HDT := Lib.hid hdt
        have HDTL := Lib.hid hdtl
        have hfit : FitS R := ⟨hRl, fun i => ⟨(HOK.out.nn i).1, Int.le_trans (HOK.out.nn i).2 (by decide)⟩⟩
        have HFIT := Lib.hid hfit
        have hgtW : W.heap.size < gt := by omega
        clear hdt hdtl hg11 hBt10 hR10 hBr10 hbe10 hfit hz43 hz45 hsz43
        go_wp2_with fail
        go_loopw [9, 10, 48] (fun _ _ v48 (w : World) => ∃ (i : Nat) (v : Value), i ≤ 256 ∧ v48 = .int .i64 i ∧ Blk w gt 30 (tabCells dt v) ∧ w.ownsRow W.heap.size 5 1 v (comes R i).length (bytesN (comes R i)) ∧ Blk w gs 43 (intsC R) ∧ Blk w W.heap.size 30 z30 ∧ Below W.heap.size W w) (fun _ _ v48 _ => 256 - (intOf v48).toNat)
        case atStart => exact ⟨0, .slice none 0 0, by omega, rfl, hBt11, ⟨rfl, .inl ⟨rfl, rfl⟩⟩, hR11, hBr11, hbe11⟩
        case round =>
          clear hBt11 hR11 hBr11 hbe11
          obtain ⟨i, v, hi, rfl, hBt, hown, hR, hBr, hbe⟩ := hrel
          have hkl := comes_len R i
          obtain ⟨xs, hxs⟩ : ∃ xs, xs = comes R i := ⟨_, rfl⟩
          rw [← hxs] at hown hkl
          have HXS := Lib.hid hxs
          clear hxs
          by_cases hlt : i < 256
          · have c1 : wr.cell? ⟨gs, i, none⟩ = some (.int .i64 (R.getD i 0)) := by rw [hR.cell]; exact intsC_at R i (by omega)
            obtain ⟨x0, x1⟩ := HOK.out.nn i
            obtain ⟨x, hx⟩ : ∃ x, x = R.getD i 0 := ⟨_, rfl⟩
            rw [← hx] at c1 x0 x1
            have HX := Lib.hid hx
            clear hx
            by_cases hpos : 0 < x
            · have hcy := comes_yes (R := R) (k := i) (by rw [← HX.out]; exact hpos)
              rw [← HXS.out] at hcy
              have HCY := Lib.hid hcy
              obtain ⟨w3, hw3⟩ : ∃ w3, w3 = wr.alloc (.cells #[.int .u8 (i : Int)] 5) := ⟨_, rfl⟩
              have hn3 : Blk w3 wr.heap.size 5 #[.int .u8 (i : Int)] := by rw [hw3]; exact Blk.new wr 5 _
              have hb3 : Below wr.heap.size wr w3 := by rw [hw3]; exact (Below.refl _ _).alloc (Nat.le_refl _) _
              have hBt3 := hBt.below hb3 hBt.lt
              have hR3 := hR.below hb3 hR.lt
              have hBr3 := hBr.below hb3 hBr.lt
              have hown3 := own_below hown hb3 (Nat.le_refl _)
              have hbe3 := hbe.trans (hb3.mono hbe.size)
              have hsz3 := hbe3.size
              have cv : wr.cell? ⟨gt, 16, none⟩ = some v := by rw [hBt.cell]; exact tabCells_last dt v HDTL.out
              have HW3 := Lib.hid hw3
              clear hw3 hcy hb3 hBt hR hBr hown hbe
              go_wp2_with (change wpList _ _ _ _ _ (wr.alloc (.cells #[.int .u8 (i : Int)] 5)); rw [← HW3.out]; refine append_one info5 rfl Try.underlying22 rfl (.tmp 56) (.tmp 59) rfl W.heap.size v xs.length (bytesN xs) rfl hown3 wr.heap.size rfl hn3 rfl (by omega) (by omega) hsz3 ?_; intro v4 w4 hown4 hg4; obtain ⟨gs4, cap4, rfl⟩ := own_slice' hown4 (by omega); have hBt4 := hBt3.grown hg4 (fun e => own_blk_ne hown3 hBt3 (by decide) e.symm); have hbc4 := hBt4.cell 16; rw [tabCells_last dt v HDTL.out] at hbc4; have hbf4 := hBt4.frozen 16)
              have hR4 := hR3.grown hg4 (fun e => own_blk_ne hown3 hR3 (by decide) e.symm)
              have hBr4 := hBr3.grown hg4 (fun e => own_blk_ne hown3 hBr3 (by decide) e.symm)
              have hbe4 := hbe3.grown hg4 hbe3.size (fun k e => own_ge hown3 k e)
              have hset := hBt4.set_ 16 (.slice (some ⟨gs4, 0, none⟩) (xs.length + 1) cap4)
              rw [tabCells_set16 _ _ _ HDTL.out] at hset
              have hg5 : w4.grownBy (w4.setCell ⟨gt, 16, none⟩ (.slice (some ⟨gs4, 0, none⟩) (xs.length + 1) cap4)) (some gt) := grown_setCell w4 ⟨gt, 16, none⟩ (.slice (some ⟨gs4, 0, none⟩) (xs.length + 1) cap4)
              have hown5 := own_grown hown4 hg5 (fun k hk e => by injection e with e; subst e; exact own_blk_ne hown4 hBt4 (by decide) hk)
              have hR5 := hR4.grown hg5 (fun e => by injection e with e; omega)
              have hBr5 := hBr4.grown hg5 (fun e => by injection e with e; omega)
              have hbe5 := hbe4.grown hg5 hbe4.size (fun k e => by injection e with e; omega)
              go_roundw
              case rel => exact ⟨i + 1, _, by omega, by go_num, hset, by rw [HCY.out]; simpa [bytesN] using hown5, hR5, hBr5, hbe5⟩
              case measure => simp [intOf]; omega
            · have hcn := comes_no (R := R) (k := i) (by rw [← HX.out]; exact hpos)
              rw [← HXS.out] at hcn
              have HCN := Lib.hid hcn
              clear hcn
              go_wp2_with fail
              go_roundw
              case rel => exact ⟨i + 1, v, by omega, by go_num, hBt, by rw [HCN.out]; exact hown, hR, hBr, hbe⟩
              case measure => simp [intOf]; omega
          · obtain rfl : i = 256 := by omega
            have hsz30 := fun v => size30 dt v HDTL.out
            have hz30s : ∀ v, z30.size = (tabCells dt v).size := fun v => by rw [HZ30.out, tabCells_size _ _ (by simp), tabCells_size _ _ HDTL.out]
            have hv1 := own_one hown
            have HS := Lib.hid hsz30
            have HZS := Lib.hid hz30s
            have HV1 := Lib.hid hv1
            have cv : wr.cell? ⟨gt, 16, none⟩ = some v := by rw [hBt.cell]; exact tabCells_last dt v HDTL.out
            clear hsz30 hz30s hv1
            rcases hown.2 with ⟨rfl, h0⟩ | ⟨b, cap, cur, rfl, hbb, _⟩
            · have hx0 : xs = [] := List.eq_nil_of_length_eq_zero h0
              subst hx0
              have hone := tabCells_one dt _ HV1.out
              have hs1 := HS.out (.slice none 0 0)
              have HONE := Lib.hid hone
              clear hown h0 hone
              go_wp2_with (first | (go_at_call 17; refine (sort_nil gs wr).mono ?_; rintro e w12 ⟨rfl, rfl⟩) | (refine wpList_load_blk rfl 30 (.tmp 7) rfl gt rfl 30 _ _ hBt Try.underlying30 rfl hs1 ?_) | (refine wpList_store_blk rfl 30 (.tmp 2) (.tmp 67) rfl W.heap.size rfl 30 _ _ rfl hBr hs1 (HZS.out _) HONE.out ?_; intro w5 hR5 hg5 hs5; clear hs5))
              exact bodyPost_ret (results_cell_blk rfl _ _ W.heap.size 30 _ _ rfl hR5 Try.underlying30 rfl hs1) rfl ⟨_, rfl, ⟨⟨R, n, [], none, 0, by rw [HDT.out]; rfl, HOK.out, HSH.out, by rw [← HXS.out], Srt.one _ _ _ _ (by simp), Reads.none_⟩⟩, hbe.grown hg5 hbe.size (fun k e => by injection e with e; omega)⟩
            · have hrw : Rw wr W.heap.size b cap xs gs R := ⟨hown, hR, HFIT.out, fun x hx => by
                rw [HXS.out] at hx
                have := (comes_mem.1 hx).1
                omega, hkl⟩
              have hne : b ≠ gt := fun e => by
                subst e
                exact own_blk_ne hown hBt (by decide) rfl
              have hne2 : b ≠ W.heap.size := fun e => own_blk_ne hown hBr (by decide) (by rw [← e]; rfl)
              have HKS := Lib.hid (sort_any W.heap.size b cap gs R xs wr hrw)
              obtain ⟨k, hk⟩ : ∃ k, k = xs.length := ⟨_, rfl⟩
              rw [← hk] at HV1 cv hBt HKS hkl
              have hone := tabCells_one dt _ HV1.out
              have hs1 := HS.out (.slice (some ⟨b, 0, none⟩) k cap)
              have HONE := Lib.hid hone
              have HK := Lib.hid hk
              clear hown hone hrw hk
              go_wp2_with (first | (go_at_call 17; refine HKS.out.mono ?_; rintro e w12 ⟨rfl, ys, hrw2, hpm, hso, hg12⟩; have hBt12 := hBt.grown hg12 (fun e => by injection e with e; exact hne e.symm)) | (refine wpList_load_blk rfl 30 (.tmp 7) rfl gt rfl 30 _ _ hBt12 Try.underlying30 rfl hs1 ?_; have hBr12 := hBr.grown hg12 (fun e => by injection e with e; exact hne2 e.symm)) | (refine wpList_store_blk rfl 30 (.tmp 2) (.tmp 67) rfl W.heap.size rfl 30 _ _ rfl hBr12 hs1 (HZS.out _) HONE.out ?_; intro w5 hR5 hg5 hs5))
              have hyl : ys.length = k := by rw [hpm.length_eq, HK.out]
              have hbe12 := hbe.grown hg12 hbe.size (fun k e => by injection e with e; omega)
              have hown5 := own_grown hrw2.own hg5 (fun k hk e => by
                have e1 : W.heap.size = k := by injection e
                have e2 : b = k := by injection hk
                exact hne2 (e2.trans e1.symm))
              have hrd := Reads.of_own hown5
              exact bodyPost_ret (results_cell_blk rfl _ _ W.heap.size 30 _ _ rfl hR5 Try.underlying30 rfl hs1) rfl ⟨_, rfl, ⟨⟨R, n, ys, some ⟨b, 0, none⟩, cap, by rw [HDT.out, hyl], HOK.out, HSH.out, by rw [← HXS.out]; exact hpm, by rw [hyl]; exact hso, hrd⟩⟩, hbe12.grown hg5 hbe12.size (fun k e => by injection e with e; omega)⟩
end Go.Proofs.Ytdkgficmodcolaa
