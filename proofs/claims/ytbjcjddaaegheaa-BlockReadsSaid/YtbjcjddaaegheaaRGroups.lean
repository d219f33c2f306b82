/- ref13.Groups: the same rows. -/
import Derived.Test.YtbjcjddaaegheaaGroups
namespace Go.Proofs.Ytbjcjddaaegheaa
open Go.RowKit

theorem idx33 (g s : Nat) (hs : s < 64) (w : World) : (Instr.indexAt 33 (.pointer (some ⟨g, 0, none⟩)) (.int .i64 s)).run Try.prog w = .ok (.pointer (some ⟨g, s, none⟩)) w := by
  have h1 : (Try.prog.info? 3).map (·.size) = some 1 := by kernel_rfl
  obtain ⟨i, hi, hsz⟩ := Option.map_eq_some_iff.1 h1
  have hn : 0 ≤ (s : Int) ∧ (s : Int) < 64 := by omega
  simp [Instr.indexAt, run_underlying Try.underlying33, asIntOf, hn, sizeOf, typeInfo, hi, hsz, Result.andThen, go_sem]
  exact fun h => absurd h (by omega)
theorem yieldsIf_index33 {ops : Array Oper} {S : World → Prop} {op : Oper} {a : Act} (hw : Region.wanted op (yielded ops a.tmps) = true) (x ix : Operand) (ho : op.op = .indexAddr 33 x ix) (g s : Nat) (hs : s < 64)
    (hx : a.eval x = .pointer (some ⟨g, 0, none⟩)) (hix : a.eval ix = .int .i64 s) : YieldsIf Try.prog ops S op (.pointer (some ⟨g, s, none⟩)) a :=
  .inl ⟨hw, fun w _ => by
    unfold execOp
    simp only [ho, hx, hix, Sem.run_bind, idx33 g s hs, Result.andThen_ok, Sem.run_pure]⟩

set_option maxRecDepth 100000 in
set_option maxHeartbeats 2000000 in
theorem rgroups_any (z : List Int) (last : Int) (fd fa : Nat → Nat × Nat) (W : World) (hz : Zigged z) (l0 : -1024 ≤ last) (l1 : last ≤ 1023) :
    Calls Try.prog 21 #[.agg (intsC z), .int .i64 last, .agg (codeC fd), .agg (codeC fa)] W fun e w' => ∃ v, e = .returned v ∧ RowsAt w' W.heap.size v (groupsS fd fa z last) ∧ Below W.heap.size W w' := by
  have hst := GSt.start W (intsC z) (codeC fd) (codeC fa)
  obtain ⟨z0, hz0⟩ : ∃ z0, z0 = z.getD 0 0 := ⟨_, rfl⟩
  have hc0 : ((((W.alloc (.cells (intsC z) 33)).alloc (.cells (codeC fd) 43)).alloc (.cells (codeC fa) 43))).cell? ⟨W.heap.size, 0, none⟩ = some (.int .i64 z0) := by rw [hst.z.cell, hz0]; exact intsC_at z 0 (by rw [hz.len]; omega)
  obtain ⟨zf0, zf1⟩ := hz.first
  rw [← hz0] at zf0 zf1
  have hrd := fun w (h : Blk w (W.heap.size + 1) 43 (codeC fd)) => range_code h
  have hra := fun w (h : Blk w (W.heap.size + 1 + 1) 43 (codeC fa)) => range_code h
  have hzat := fun i (h : i < 64) => intsC_at z i (by rw [hz.len]; exact h)
  obtain ⟨cz, hcz⟩ : ∃ cz, cz = intsC z := ⟨_, rfl⟩
  obtain ⟨cd, hcd⟩ : ∃ cd, cd = codeC fd := ⟨_, rfl⟩
  obtain ⟨ca, hca⟩ : ∃ ca, ca = codeC fa := ⟨_, rfl⟩
  obtain ⟨G, hG⟩ : ∃ G, G = groupsS fd fa z last := ⟨_, rfl⟩
  unfold groupsS at hG
  rw [← hz0] at hG
  obtain ⟨d, hd⟩ : ∃ d, d = z0 - last := ⟨_, rfl⟩
  have d0 := sizeS_nonneg d
  have d1 := sizeS_le d 11 (by omega) (by omega)
  obtain ⟨s, hs⟩ : ∃ s : Nat, sizeS d = s := ⟨(sizeS d).toNat, by omega⟩
  rw [← hd, hs, Int.toNat_natCast] at hG
  rw [← hcz] at hst hc0 hzat ⊢
  rw [← hcd] at hst hc0 hrd ⊢
  rw [← hca] at hst hc0 hra ⊢
  have hwr : wrap64 (z0 - last) = d := by rw [hd]; unfold wrap64; omega
  have s11 : s ≤ 11 := by omega
  have HD := Lib.hid hd
  have HRD := Lib.hid hrd
  have HRA := Lib.hid hra
  have HZ := Lib.hid hz
  have HZAT := Lib.hid hzat
  have HS := Lib.hid hs
  have hG' := hG
  rw [show groupsS fd fa z last = G by rw [hG, groupsS, ← hz0, ← hd, hs, Int.toNat_natCast]]
  have HG := Lib.hid hG'
  have e0 : -2047 ≤ d := by omega
  have e1 : d ≤ 2047 := by omega
  clear hG hG' hz0 hcz hcd hca hd hs hrd hra hzat hz d0 d1 zf0 zf1
  go_enter Try.func21, Try.ntmps21
  go_wp2_with fail
  rename_i K hK
  rw [hwr]
  have hsz3 : (((W.alloc (.cells cz 33)).alloc (.cells cd 43)).alloc (.cells ca 43)).heap.size = W.heap.size + 3 := by simp
  generalize hw1 : ((W.alloc (.cells cz 33)).alloc (.cells cd 43)).alloc (.cells ca 43) = w1 at *
  clear hw1
  have hst1 := hst.drew
  refine wp_region_noPanic ?_
  refine wp_region_held (S := fun w => Blk w (W.heap.size + 1) 43 cd) (by kernel_rfl) ?_
  show wpAnyH _ _ _ _ _ _ _ _ w1.drew
  refine wpAnyH_take (i := 0) (oi := ⟨some 18, _, _, _, _, _⟩) (v := .int .i64 d) rfl (by kernel_rfl) (by kernel_rfl) (by kernel_rfl) (fun c a w h => h) (Or.inl ⟨by rfl, fun w _ => rfl⟩) hst1.d ?_
  simp only [Act.put, List.setIfInBounds_toArray, List.set_cons_zero, List.set_cons_succ]
  refine wpAnyH_take (i := 4) (oi := ⟨some 22, _, _, _, _, _⟩) (v := .int .i64 d) rfl (by kernel_rfl) (by kernel_rfl) (by kernel_rfl) (fun c a w h => h) (Or.inl ⟨by rfl, fun w _ => rfl⟩) hst1.d ?_
  simp only [Act.put, List.setIfInBounds_toArray, List.set_cons_zero, List.set_cons_succ]
  refine wpAnyH_ready (rs := [1]) (by kernel_rfl) (by simp) ?_
  refine AllReadyH.cons rfl (fun K' hK' => ?_) AllReadyH.nil
  go_simp
  refine (rsize_any d _ (by omega) (by omega)).mono ?_
  rintro e w2 ⟨rfl, rfl⟩
  rw [HS.out]
  refine hK'.out _ _ hst1.d (fun hS5 => ?_)
  clear hK' K' hS5
  refine wpAnyH_take (i := 2) (oi := ⟨some 20, _, _, _, _, _⟩) (v := .pointer (some ⟨W.heap.size + 1, s * 2, none⟩)) rfl (by kernel_rfl) (by kernel_rfl) (by kernel_rfl) (fun c a w h => h) (yieldsIf_index43 (by rfl) (.tmp 6) (.tmp 19) rfl (W.heap.size + 1) s (by omega) rfl rfl) hst1.d ?_
  simp only [Act.put, List.setIfInBounds_toArray, List.set_cons_zero, List.set_cons_succ]
  refine wpAnyH_take (i := 3) (oi := ⟨some 21, _, _, _, _, _⟩) (v := .agg #[.int .i64 (codeP fd s).1, .int .i64 (codeP fd s).2]) rfl (by kernel_rfl) (by kernel_rfl) (by kernel_rfl) (fun c a w h => h) (yieldsIf_load_mid (by rfl) 42 (.tmp 20) rfl (W.heap.size + 1) (s * 2) rfl [_, _] _ (fun w h => HRD.out w h s (by omega)) Try.underlying42 rfl (by kernel_rfl)) hst1.d ?_
  simp only [Act.put, List.setIfInBounds_toArray, List.set_cons_zero, List.set_cons_succ]
  refine wpAnyH_ready (rs := [5]) (by kernel_rfl) (by simp) ?_
  refine AllReadyH.cons rfl (fun K' hK' => ?_) AllReadyH.nil
  go_simp
  refine (rtail_any d _ (by omega) (by omega)).mono ?_
  rintro e w2 ⟨rfl, hb2⟩
  have hst2 := hst1.below hb2 hst1.size
  refine hK'.out _ _ hst2.d (fun hS5 => ?_)
  clear hK' K' hS5 hb2 hst1
  refine wpAnyH_ready (rs := [6]) (by kernel_rfl) (by simp) ?_
  refine AllReadyH.cons rfl (fun K' hK' => ?_) AllReadyH.nil
  rw [if_pos (by rfl)]
  refine wp_bslice 45 42 2 _ rfl Try.underlying45 #[.int .i64 (codeP fd s).1, .int .i64 (codeP fd s).2, .int .i64 (tailP d).1, .int .i64 (tailP d).2] (by kernel_rfl) ?_
  have hst3 := hst2.alloc (.cells #[.int .i64 (codeP fd s).1, .int .i64 (codeP fd s).2, .int .i64 (tailP d).1, .int .i64 (tailP d).2] 42)
  have hn3 := Blk.new w2 42 #[.int .i64 (codeP fd s).1, .int .i64 (codeP fd s).2, .int .i64 (tailP d).1, .int .i64 (tailP d).2]
  have hb3 := hst2.size
  generalize w2.alloc (.cells #[.int .i64 (codeP fd s).1, .int .i64 (codeP fd s).2, .int .i64 (tailP d).1, .int .i64 (tailP d).2] 42) = w3 at *
  refine hK'.out _ _ hst3.d (fun hS5 => ?_)
  clear hK' K' hS5 hst2
  refine wpAnyH_ready (rs := [7]) (by kernel_rfl) (by simp) ?_
  refine AllReadyH.cons rfl (fun K' hK' => ?_) AllReadyH.nil
  rw [if_pos (by rfl)]
  refine wp_bslice 39 45 1 _ rfl Try.underlying39 #[.slice (some ⟨w2.heap.size, 0, none⟩) 2 2] (by kernel_rfl) ?_
  have hst4 := hst3.alloc (.cells #[.slice (some ⟨w2.heap.size, 0, none⟩) 2 2] 45)
  have hro := rows_one (base := W.heap.size + 3) (r := [codeP fd s, tailP d]) (hn3.alloc (.cells #[.slice (some ⟨w2.heap.size, 0, none⟩) 2 2] 45)) (Blk.new w3 45 #[.slice (some ⟨w2.heap.size, 0, none⟩) 2 2]) hb3 hst3.size rfl (by decide) rfl
  generalize w3.alloc (.cells #[.slice (some ⟨w2.heap.size, 0, none⟩) 2 2] 45) = w4 at *
  refine hK'.out _ _ hst4.d (fun hS5 => ?_)
  clear hK' K' hS5 hst3 hn3 hb3
  obtain ⟨v10, hv10⟩ : ∃ v10, v10 = Value.slice (some ⟨w3.heap.size, 0, none⟩) 1 1 := ⟨_, rfl⟩
  refine wpAnyH_take (i := 8) (oi := ⟨some 10, _, _, _, _, _⟩) (v := v10) rfl (by kernel_rfl) (by kernel_rfl) (by kernel_rfl) (fun c a w h => h) (Or.inl ⟨by rfl, fun w _ => by rw [hv10]; rfl⟩) hst4.d ?_
  rw [← hv10] at hro
  refine wpAnyH_done (by kernel_rfl) ?_ _
  refine hK _ _ ?_
  clear hK K
  simp only [Act.put, List.setIfInBounds_toArray]
  clear hv10
  go_wp2_with fail
  clear hst hc0 hsz3
  go_loopw [10, 11, 12] (fun v10 v11 v12 (w : World) => ∃ (i run : Nat) (rows : List (List (Int × Int))), i ≤ 63 ∧ v12 = .int .i64 (i + 1 : Nat) ∧ run ≤ i ∧ v11 = .int .i64 run ∧ GSt W cz cd ca w ∧ rows.length ≤ i + 1 ∧ RowsAt w (W.heap.size + 3) v10 rows ∧ G = rows ++ grpS fa (z.drop (i + 1)) run ∧ (0 < run → z.getD i 0 = 0) ∧ (run = 0 → 0 < i → z.getD i 0 ≠ 0)) (fun _ _ v12 _ => 64 - (intOf v12).toNat)
  case atStart => exact ⟨0, 0, _, by omega, rfl, by omega, rfl, hst4, by simp, hro, HG.out, fun h => absurd h (by omega), fun _ h => absurd h (by omega)⟩
  case round =>
    clear hst4 hro HG
    obtain ⟨i, run, rows, hi, rfl, hrun, rfl, hst, hrl, hro, hG, hlast, hlast2⟩ := hrel
    have HG := Lib.hid hG
    have HLA := Lib.hid hlast
    have HLB := Lib.hid hlast2
    clear hG hlast hlast2
    by_cases hlt : i < 63
    · obtain ⟨x, hx⟩ : ∃ x, x = z.getD (i + 1) 0 := ⟨_, rfl⟩
      obtain ⟨k, hk⟩ : ∃ k, k = i + 1 := ⟨_, rfl⟩
      have hcx : wr.cell? ⟨W.heap.size, k, none⟩ = some (.int .i64 x) := by rw [hst.z.cell, hk, hx]; exact HZAT.out (i + 1) (by omega)
      have hzx : ∀ w : World, Blk w W.heap.size 33 cz → w.cell? ⟨W.heap.size, k, none⟩ = some (.int .i64 x) := fun w h => by rw [h.cell, hk, hx]; exact HZAT.out (i + 1) (by omega)
      obtain ⟨x0, x1⟩ := HZ.out.all (i + 1) (by omega)
      rw [← hx] at x0 x1
      have hdr : z.drop (i + 1) = x :: z.drop (i + 1 + 1) := by rw [hx]; exact drop_getD z (i + 1) (by rw [HZ.out.len]; omega)
      have hG := HG.out
      rw [hdr, grpS] at hG
      have HX := Lib.hid hx
      have hk64 : k < 64 := by omega
      rw [← hk]
      have HK := Lib.hid hk
      have HZX := Lib.hid hzx
      clear HG hx hdr hk HLA HLB hzx
      by_cases hx0 : x = 0
      · subst hx0
        rw [if_pos rfl] at hG
        have HG := Lib.hid hG
        clear hG
        go_wp2_with fail
        go_roundw
        case rel => exact ⟨i + 1, run + 1, rows, by omega, by have := HK.out; congr 1; omega, by omega, by go_num, hst, by omega, hro, HG.out, fun _ => HX.out.symm, fun h => absurd h (by omega)⟩
        case measure => have := HK.out; simp [intOf]; omega
      · rw [if_neg hx0] at hG
        have HG := Lib.hid hG
        have hxe : (x == 0) = false := by simpa using hx0
        clear hG
        go_wp2_with fail
        have hdec : decide ((k : Int) < 64) = true := decide_eq_true (by omega)
        rw [hdec]
        generalize wr = wo at *
        go_loopw [11, 13] (fun v11 v14 (w : World) => ∃ j : Nat, 16 * j ≤ run ∧ v11 = .int .i64 ((run - 16 * j : Nat) : Int) ∧ w.ownsRow wo.heap.size 42 2 v14 j (rowCells (List.replicate j (codeP fa 240))) ∧ Below wo.heap.size wo w) (fun v11 _ _ => (intOf v11).toNat)
        case atStart => exact ⟨0, by omega, rfl, World.ownsRow_nil _ _ _ _, Below.refl _ _⟩
        case round =>
          obtain ⟨j, hj, rfl, hown, hbi⟩ := hrel
          have hsti := hst.below hbi hst.size
          have hsz := hbi.size
          have hszo := hst.size
          by_cases hmore : 16 * j + 16 ≤ run
          · have hge : (15 : Int) < ((run - 16 * j : Nat) : Int) := by omega
            have hrun' : ((run - 16 * j : Nat) : Int) ≤ 64 := by omega
            obtain ⟨y, hy⟩ : ∃ y : Int, ((run - 16 * j : Nat) : Int) = y := ⟨_, rfl⟩
            rw [hy] at hge hrun' ⊢
            have HY := Lib.hid hy
            have hB240 := HRA.out _ hsti.a 240 (by omega)
            have hnb := Blk.new wr 42 (rowCells [codeP fa 240]).toArray
            have hown2 : (wr.alloc (.cells (rowCells [codeP fa 240]).toArray 42)).ownsRow wo.heap.size 42 2 u13 j (rowCells (List.replicate j (codeP fa 240))) := own_grown hown (World.grownBy_alloc _ _ none) (fun _ _ => by simp)
            have hbi2 := hbi.alloc hsz (.cells (rowCells [codeP fa 240]).toArray 42)
            clear hy
            go_wp2_with (first | (refine wpList_load_mid rfl 42 (.tmp 39) rfl (W.heap.size + 1 + 1) 480 rfl [_, _] _ hB240 Try.underlying42 rfl (by kernel_rfl) ?_) | (refine Great.wpList_buildSliceTo rfl 45 42 1 _ rfl wr.heap.size rfl (some 41) rfl Try.underlying45 (rowCells [codeP fa 240]).toArray (by kernel_rfl) ?_) | (refine append42 rfl (.tmp 38) (.tmp 41) rfl wo.heap.size u13 j (List.replicate j (codeP fa 240)) rfl hown2 wr.heap.size 1 [codeP fa 240] rfl hnb rfl (by omega) (by simp; omega) ?_; intro v' w' hown3 hg3))
            have hb3 := below_own hown2 hg3 (Nat.le_refl _) (by simp; omega)
            go_roundw
            case rel => exact ⟨j + 1, by omega, by have := HY.out; congr 1; omega, by rw [List.replicate_succ']; exact hown3, hbi2.trans hb3⟩
            case measure => simp [intOf]; omega
          · have hle : ((run - 16 * j : Nat) : Int) ≤ 15 := by omega
            obtain ⟨m, hm⟩ : ∃ m : Nat, m = run - 16 * j := ⟨_, rfl⟩
            have hm16 : m < 16 := by omega
            rw [← hm] at hle ⊢
            have HM := Lib.hid hm
            clear hm
            have q0 := sizeS_nonneg x
            have q1 := sizeS_le x 10 (by omega) (by omega)
            obtain ⟨sx, hsx⟩ : ∃ sx : Nat, sizeS x = sx := ⟨(sizeS x).toNat, by omega⟩
            have hs16 : sx < 16 := by omega
            have HSX := Lib.hid hsx
            clear hsx q0 q1
            go_wp2_with fail
            rename_i K hK
            have hst1 := hsti.drew
            obtain ⟨hs, hhl, hho, hhi⟩ := hro
            have hho1 := own_below hho hbi (Nat.le_refl _)
            have hhi1 := fun i u r h1 h2 => own_below (hhi i u r h1 h2) hbi (Nat.le_refl _)
            have hbase : W.heap.size + 3 ≤ wo.heap.size := hszo
            have hmul : IntKind.i64.wrap (16 * (m : Int)) = ((16 * m : Nat) : Int) := by rw [IntKind.wrap_i64]; omega
            have hadd : IntKind.i64.wrap (((16 * m : Nat) : Int) + (sx : Int)) = ((16 * m + sx : Nat) : Int) := by rw [IntKind.wrap_i64]; omega
            clear hst hsti
            refine wp_region_noPanic ?_
            refine wp_region_held (S := fun w => Blk w W.heap.size 33 cz ∧ Blk w (W.heap.size + 1 + 1) 43 ca) (by kernel_rfl) ?_
            show wpAnyH _ _ _ _ _ _ _ _ wr.drew
            refine wpAnyH_take (i := 0) (oi := ⟨some 45, _, _, _, _, _⟩) (v := u13) rfl (by kernel_rfl) (by kernel_rfl) (by kernel_rfl) (fun c a w h => h) (Or.inl ⟨by rfl, fun w _ => rfl⟩) ⟨hst1.z, hst1.a⟩ ?_
            simp only [Act.put, List.setIfInBounds_toArray, List.set_cons_zero, List.set_cons_succ]
            refine wpAnyH_take (i := 1) (oi := ⟨some 46, _, _, _, _, _⟩) (v := .int .i64 m) rfl (by kernel_rfl) (by kernel_rfl) (by kernel_rfl) (fun c a w h => h) (Or.inl ⟨by rfl, fun w _ => rfl⟩) ⟨hst1.z, hst1.a⟩ ?_
            simp only [Act.put, List.setIfInBounds_toArray, List.set_cons_zero, List.set_cons_succ]
            refine wpAnyH_take (i := 2) (oi := ⟨some 47, _, _, _, _, _⟩) (v := .int .i64 (IntKind.i64.wrap (16 * (m : Int)))) rfl (by kernel_rfl) (by kernel_rfl) (by kernel_rfl) (fun c a w h => h) (Or.inl ⟨by rfl, fun w _ => rfl⟩) ⟨hst1.z, hst1.a⟩ ?_
            simp only [Act.put, List.setIfInBounds_toArray, List.set_cons_zero, List.set_cons_succ]
            rw [hmul]
            refine wpAnyH_take (i := 3) (oi := ⟨some 48, _, _, _, _, _⟩) (v := .int .i64 k) rfl (by kernel_rfl) (by kernel_rfl) (by kernel_rfl) (fun c a w h => h) (Or.inl ⟨by rfl, fun w _ => rfl⟩) ⟨hst1.z, hst1.a⟩ ?_
            simp only [Act.put, List.setIfInBounds_toArray, List.set_cons_zero, List.set_cons_succ]
            refine wpAnyH_take (i := 4) (oi := ⟨some 49, _, _, _, _, _⟩) (v := .pointer (some ⟨W.heap.size, k, none⟩)) rfl (by kernel_rfl) (by kernel_rfl) (by kernel_rfl) (fun c a w h => h) (yieldsIf_index33 (by rfl) (.tmp 4) (.tmp 48) rfl W.heap.size k hk64 rfl rfl) ⟨hst1.z, hst1.a⟩ ?_
            simp only [Act.put, List.setIfInBounds_toArray, List.set_cons_zero, List.set_cons_succ]
            refine wpAnyH_take (i := 5) (oi := ⟨some 50, _, _, _, _, _⟩) (v := .int .i64 x) rfl (by kernel_rfl) (by kernel_rfl) (by kernel_rfl) (fun c a w h => h) (yieldsIf_load_cell (by rfl) 3 (.tmp 49) rfl ⟨W.heap.size, k, none⟩ rfl _ _ (fun w h => HZX.out w h.1) Try.underlying3 rfl) ⟨hst1.z, hst1.a⟩ ?_
            simp only [Act.put, List.setIfInBounds_toArray, List.set_cons_zero, List.set_cons_succ]
            refine wpAnyH_take (i := 10) (oi := ⟨some 55, _, _, _, _, _⟩) (v := .int .i64 k) rfl (by kernel_rfl) (by kernel_rfl) (by kernel_rfl) (fun c a w h => h) (Or.inl ⟨by rfl, fun w _ => rfl⟩) ⟨hst1.z, hst1.a⟩ ?_
            simp only [Act.put, List.setIfInBounds_toArray, List.set_cons_zero, List.set_cons_succ]
            refine wpAnyH_take (i := 11) (oi := ⟨some 56, _, _, _, _, _⟩) (v := .pointer (some ⟨W.heap.size, k, none⟩)) rfl (by kernel_rfl) (by kernel_rfl) (by kernel_rfl) (fun c a w h => h) (yieldsIf_index33 (by rfl) (.tmp 4) (.tmp 55) rfl W.heap.size k hk64 rfl rfl) ⟨hst1.z, hst1.a⟩ ?_
            simp only [Act.put, List.setIfInBounds_toArray, List.set_cons_zero, List.set_cons_succ]
            refine wpAnyH_take (i := 12) (oi := ⟨some 57, _, _, _, _, _⟩) (v := .int .i64 x) rfl (by kernel_rfl) (by kernel_rfl) (by kernel_rfl) (fun c a w h => h) (yieldsIf_load_cell (by rfl) 3 (.tmp 56) rfl ⟨W.heap.size, k, none⟩ rfl _ _ (fun w h => HZX.out w h.1) Try.underlying3 rfl) ⟨hst1.z, hst1.a⟩ ?_
            simp only [Act.put, List.setIfInBounds_toArray, List.set_cons_zero, List.set_cons_succ]
            refine wpAnyH_ready (rs := [6]) (by kernel_rfl) (by simp) ?_
            refine AllReadyH.cons rfl (fun K' hK' => ?_) AllReadyH.nil
            go_simp
            refine (rsize_any x _ (by omega) (by omega)).mono ?_
            rintro e w5 ⟨rfl, rfl⟩
            rw [HSX.out]
            refine hK'.out _ _ ⟨hst1.z, hst1.a⟩ (fun hS5 => ?_)
            clear hK' K' hS5
            refine wpAnyH_take (i := 7) (oi := ⟨some 52, _, _, _, _, _⟩) (v := .int .i64 (IntKind.i64.wrap (((16 * m : Nat) : Int) + (sx : Int)))) rfl (by kernel_rfl) (by kernel_rfl) (by kernel_rfl) (fun c a w h => h) (Or.inl ⟨by rfl, fun w _ => rfl⟩) ⟨hst1.z, hst1.a⟩ ?_
            simp only [Act.put, List.setIfInBounds_toArray, List.set_cons_zero, List.set_cons_succ]
            rw [hadd]
            refine wpAnyH_take (i := 8) (oi := ⟨some 53, _, _, _, _, _⟩) (v := .pointer (some ⟨W.heap.size + 1 + 1, (16 * m + sx) * 2, none⟩)) rfl (by kernel_rfl) (by kernel_rfl) (by kernel_rfl) (fun c a w h => h) (yieldsIf_index43 (by rfl) (.tmp 7) (.tmp 52) rfl (W.heap.size + 1 + 1) (16 * m + sx) (by omega) rfl rfl) ⟨hst1.z, hst1.a⟩ ?_
            simp only [Act.put, List.setIfInBounds_toArray, List.set_cons_zero, List.set_cons_succ]
            refine wpAnyH_take (i := 9) (oi := ⟨some 54, _, _, _, _, _⟩) (v := .agg #[.int .i64 (codeP fa (16 * m + sx)).1, .int .i64 (codeP fa (16 * m + sx)).2]) rfl (by kernel_rfl) (by kernel_rfl) (by kernel_rfl) (fun c a w h => h) (yieldsIf_load_mid (by rfl) 42 (.tmp 53) rfl (W.heap.size + 1 + 1) ((16 * m + sx) * 2) rfl [_, _] _ (fun w h => HRA.out w h.2 (16 * m + sx) (by omega)) Try.underlying42 rfl (by kernel_rfl)) ⟨hst1.z, hst1.a⟩ ?_
            simp only [Act.put, List.setIfInBounds_toArray, List.set_cons_zero, List.set_cons_succ]
            refine wpAnyH_ready (rs := [13]) (by kernel_rfl) (by simp) ?_
            refine AllReadyH.cons rfl (fun K' hK' => ?_) AllReadyH.nil
            go_simp
            refine (rtail_any x _ (by omega) (by omega)).mono ?_
            rintro e w6 ⟨rfl, hb6⟩
            have hst6 := hst1.below hb6 hst1.size
            have hho6 := own_below hho1.drew hb6 (Nat.le_refl _)
            have hhi6 := fun i u r h1 h2 => own_below (hhi1 i u r h1 h2).drew hb6 (Nat.le_refl _)
            have hown6 := own_below hown.drew hb6 (Nat.le_refl _)
            have hsz6 : wo.heap.size ≤ w6.heap.size := Nat.le_trans hsz hb6.size
            refine hK'.out _ _ ⟨hst6.z, hst6.a⟩ (fun hS5 => ?_)
            clear hK' K' hS5 hb6 hst1
            obtain ⟨q, hq⟩ : ∃ q, q = [codeP fa (16 * m + sx), tailP x] := ⟨_, rfl⟩
            have hql : q.length = 2 := by rw [hq]; rfl
            refine wpAnyH_ready (rs := [14]) (by kernel_rfl) (by simp) ?_
            refine AllReadyH.cons rfl (fun K' hK' => ?_) AllReadyH.nil
            rw [if_pos (by rfl)]
            refine wp_bslice 45 42 2 _ rfl Try.underlying45 (rowCells q).toArray (by rw [hq]; kernel_rfl) ?_
            have hst7 := hst6.alloc (.cells (rowCells q).toArray 42)
            have hn7 := Blk.new w6 42 (rowCells q).toArray
            have hb7 : Below w6.heap.size w6 (w6.alloc (.cells (rowCells q).toArray 42)) := (Below.refl _ _).alloc (Nat.le_refl _) _
            have hho7 := own_below hho6 hb7 (Nat.le_refl _)
            have hhi7 := fun i u r h1 h2 => own_below (hhi6 i u r h1 h2) hb7 (Nat.le_refl _)
            have hown7 := own_below hown6 hb7 (Nat.le_refl _)
            have hsz7 : wo.heap.size ≤ (w6.alloc (.cells (rowCells q).toArray 42)).heap.size := Nat.le_trans hsz6 hb7.size
            generalize w6.alloc (.cells (rowCells q).toArray 42) = w7 at *
            refine hK'.out _ _ ⟨hst7.z, hst7.a⟩ (fun hS5 => ?_)
            clear hK' K' hS5 hb7 hst6 hho6 hhi6 hown6
            refine wpAnyH_ready (rs := [15]) (by kernel_rfl) (by simp) ?_
            refine AllReadyH.cons rfl (fun K' hK' => ?_) AllReadyH.nil
            rw [if_pos (by rfl)]
            refine wpo_append42 (.tmp 45) (.tmp 59) rfl wo.heap.size u13 j (List.replicate j (codeP fa 240)) rfl hown7 w6.heap.size 2 q rfl hn7 hql (by omega) hsz7 ?_
            intro v8 w8 hown8 hg8
            have hb8 := below_own hown7 hg8 (Nat.le_refl _) hsz7
            have hst8 := hst7.below hb8 hbase
            have hho8 := own_grown hho7 hg8 (own_apart hho7 hown7 (by decide))
            have hhi8 : ∀ (i : Nat) (u : Value) (r : List (Int × Int)), hs[i]? = some u → rows[i]? = some r → w8.ownsRow (W.heap.size + 3) 42 2 u r.length (rowCells r) := fun i u r h1 h2 => own_grown (hhi7 i u r h1 h2) hg8 (fun g e1 e2 => by
              have a1 := own_lt (hhi i u r h1 h2) g e1
              have a2 := own_ge hown7 g e2
              omega)
            refine hK'.out _ _ ⟨hst8.z, hst8.a⟩ (fun hS5 => ?_)
            clear hK' K' hS5 hst7 hn7 hho7 hhi7 hown7 hg8
            obtain ⟨g8, c8, rfl⟩ := own_slice hown8 (by omega)
            obtain ⟨v13, hv13⟩ : ∃ v13, v13 = Value.slice (some ⟨g8, 0, none⟩) (j + 2) c8 := ⟨_, rfl⟩
            refine wpAnyH_take (i := 16) (oi := ⟨some 13, _, _, _, _, _⟩) (v := .slice (some ⟨g8, 0, none⟩) (j + 2) c8) rfl (by kernel_rfl) (by kernel_rfl) (by kernel_rfl) (fun c a w h => h) (Or.inl ⟨by rfl, fun w _ => rfl⟩) ⟨hst8.z, hst8.a⟩ ?_
            refine wpAnyH_done (by kernel_rfl) ?_ _
            refine hK _ _ ?_
            simp only [Act.put, List.setIfInBounds_toArray]
            have hst9 := hst8.alloc (.cells #[.slice (some ⟨g8, 0, none⟩) (j + 2) c8] 45)
            have hn9 := Blk.new w8 45 #[.slice (some ⟨g8, 0, none⟩) (j + 2) c8]
            have hb9 : Below w8.heap.size w8 (w8.alloc (.cells #[.slice (some ⟨g8, 0, none⟩) (j + 2) c8] 45)) := (Below.refl _ _).alloc (Nat.le_refl _) _
            have hho9 := own_below hho8 hb9 (Nat.le_refl _)
            have hhi9 := fun i u r h1 h2 => own_below (hhi8 i u r h1 h2) hb9 (Nat.le_refl _)
            have hown9 := own_below hown8 hb9 (Nat.le_refl _)
            have hrg := rowG_at fa run j m sx x HM.out hj hm16 HSX.out
            rw [← hq] at hrg
            have HRG := Lib.hid hrg
            have HQL := Lib.hid hql
            have HG2 : Hid (G = (rows ++ [rowG fa run x]) ++ grpS fa (z.drop (i + 1 + 1)) 0) := Lib.hid (by rw [List.append_assoc]; exact HG.out)
            obtain ⟨w9, hw9⟩ : ∃ w9, w9 = w8.alloc (.cells #[.slice (some ⟨g8, 0, none⟩) (j + 2) c8] 45) := ⟨_, rfl⟩
            rw [← hw9] at hst9 hn9 hho9 hhi9 hown9
            have HW9 := Lib.hid hw9
            clear hK K hq hrg hql hw9 hb9 hst8 hho8 hhi8 hown8 hv13
            go_wp2_with (first | (refine Great.wpList_buildSliceTo rfl 39 45 1 _ rfl w8.heap.size rfl (some 63) rfl Try.underlying39 #[.slice (some ⟨g8, 0, none⟩) (j + 2) c8] (by kernel_rfl) ?_; rw [← HW9.out]) | (refine wpList_plain rfl fun K' hK' => wpo_append45 (.tmp 61) (.tmp 63) rfl (W.heap.size + 3) u10 rows.length hs rfl hho9 w8.heap.size _ rfl hn9 rfl (by omega) hst9.size fun v10' w10 hho10 hg10 => hK' _ _ ?_))
            have hst10 := hst9.grown hho9 hg10
            have hro10 := rows_push (r := List.replicate j (codeP fa 240) ++ q) hhl hho9 hhi9 (own_base (by rw [List.length_append, List.length_replicate, HQL.out]; exact hown9) hbase) hg10 hho10
            rw [← HRG.out] at hro10
            go_roundw
            case rel => exact ⟨i + 1, 0, _, by omega, by have := HK.out; congr 1; omega, by omega, rfl, hst10, by simp; omega, hro10, HG2.out, fun h => absurd h (by omega), fun _ _ => by rw [← HX.out]; exact hx0⟩
            case measure => have := HK.out; simp [intOf]; omega
    · obtain rfl : i = 63 := by omega
      have hz63 : wr.cell? ⟨W.heap.size, 63, none⟩ = some (.int .i64 (z.getD 63 0)) := by rw [hst.z.cell]; exact HZAT.out 63 (by omega)
      obtain ⟨y, hy⟩ : ∃ y, y = z.getD 63 0 := ⟨_, rfl⟩
      have hla := HLA.out
      have hlb := HLB.out
      rw [← hy] at hz63 hla hlb
      clear hy
      have hG := HG.out
      rw [List.drop_eq_nil_of_le (by rw [HZ.out.len]; omega), grpS] at hG
      by_cases hr0 : 0 < run
      · rw [if_pos hr0] at hG
        have HG2 := Lib.hid hG
        obtain rfl : y = 0 := hla hr0
        have hB0 := HRA.out _ hst.a 0 (by omega)
        have hst2 := hst.alloc (.cells (rowCells [codeP fa 0]).toArray 42)
        have hn2 := Blk.new wr 42 (rowCells [codeP fa 0]).toArray
        have hro2 := hro.below (w' := wr.alloc (.cells (rowCells [codeP fa 0]).toArray 42)) ((Below.refl _ _).alloc (Nat.le_refl _) _) (Nat.le_refl _)
        have hsz2 : (wr.alloc (.cells (rowCells [codeP fa 0]).toArray 42)).heap.size = wr.heap.size + 1 := by simp
        have hb2 := hst.size
        obtain ⟨w2', hw2'⟩ : ∃ w2', w2' = wr.alloc (.cells (rowCells [codeP fa 0]).toArray 42) := ⟨_, rfl⟩
        rw [← hw2'] at hst2 hn2 hro2 hsz2
        have hst3 := hst2.alloc (.cells #[.slice (some ⟨wr.heap.size, 0, none⟩) 1 1] 45)
        have hn3 := Blk.new w2' 45 #[.slice (some ⟨wr.heap.size, 0, none⟩) 1 1]
        have hr3 := own_base (b := W.heap.size + 3) (own_new (size := 2) (base := wr.heap.size) (m := 1) (hn2.alloc (.cells #[.slice (some ⟨wr.heap.size, 0, none⟩) 1 1] 45)) (Nat.le_refl _) (by decide) rfl) hb2
        obtain ⟨hs, hhl, hho, hhi⟩ := hro2.below (w' := w2'.alloc (.cells #[.slice (some ⟨wr.heap.size, 0, none⟩) 1 1] 45)) ((Below.refl _ _).alloc (Nat.le_refl _) _) (Nat.le_refl _)
        obtain ⟨w3', hw3'⟩ : ∃ w3', w3' = w2'.alloc (.cells #[.slice (some ⟨wr.heap.size, 0, none⟩) 1 1] 45) := ⟨_, rfl⟩
        rw [← hw3'] at hst3 hn3 hr3 hho hhi
        have HW2 := Lib.hid hw2'
        have HW3 := Lib.hid hw3'
        clear hG HG hw2' hw3' hro hro2 hst hst2 hsz2
        go_wp2_with (first | (refine wpList_load_mid rfl 42 (.tmp 69) rfl (W.heap.size + 1 + 1) 0 rfl [_, _] _ hB0 Try.underlying42 rfl (by kernel_rfl) ?_) | (refine Great.wpList_buildSliceTo rfl 45 42 1 _ rfl wr.heap.size rfl (some 71) rfl Try.underlying45 (rowCells [codeP fa 0]).toArray (by kernel_rfl) ?_; rw [← HW2.out]) | (refine Great.wpList_buildSliceTo rfl 39 45 1 _ rfl w2'.heap.size rfl (some 72) rfl Try.underlying39 #[.slice (some ⟨wr.heap.size, 0, none⟩) 1 1] (by kernel_rfl) ?_; rw [← HW3.out]) | (refine wpList_plain rfl fun K' hK' => wpo_append45 (.tmp 68) (.tmp 72) rfl (W.heap.size + 3) u10 rows.length hs rfl hho w2'.heap.size _ rfl hn3 rfl (by omega) hst3.size fun v' w' hho4 hg4 => hK' _ _ ?_))
        have hst4 := hst3.grown hho hg4
        have hro4 := rows_push (r := [codeP fa 0]) hhl hho hhi hr3 hg4 hho4
        go_ret
        refine ⟨_, rfl, ?_, hst4.b⟩
        rw [HG2.out]
        exact hro4.base (by omega)
      · obtain rfl : run = 0 := by omega
        rw [if_neg (by omega), List.append_nil] at hG
        have hy0 : ¬ y = 0 := hlb rfl (by omega)
        have hye : (y == 0) = false := by simpa using hy0
        have HG2 := Lib.hid hG
        clear hG HG
        go_wp2_with fail
        go_ret
        refine ⟨_, rfl, ?_, hst.b⟩
        rw [HG2.out]
        exact hro.base (by omega)
end Go.Proofs.Ytbjcjddaaegheaa
