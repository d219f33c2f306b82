/- The reference's Codes of any table. -/
import Derived.Test.YtbjcjddaaegheaaHCodes
import Derived.Test.YtbjcjddaaegheaaRcheck
namespace Go.Proofs.Ytbjcjddaaegheaa
open Go.RowKit Go.Shelf

set_option maxRecDepth 100000 in
set_option maxHeartbeats 1000000 in
theorem rcodes_any (ct : List Int) (vs : List Int) (A : Option Addr) (len c : Nat) (W : World) (hct : ct.length = 16) (hw : ∀ x ∈ ct, (Lit.int .i64 x).wf = true) (hlen : vs.length = len) (hvb : AreBytes vs) (hr : Reads W W.heap.size 1 A len (bytesV vs)) (hl : len ≤ 9223372036854775807) :
    Calls Try.prog 16 #[.agg (tabCells ct (.slice A len c))] W fun e w' => e = .returned (.agg (codeC (codesF ct vs))) ∧ Below W.heap.size W w' := by
  have hz : ∀ w, (zeroValue 43).run Try.prog w = .ok (.agg (codeC fun _ => (0, 0))) w := fun w => by rw [codeC_zero]; exact zero43 w
  have hbld : ∀ w, (Instr.build 43 #[]).run Try.prog w = .ok (.agg (codeC fun _ => (0, 0))) w := fun w => by rw [codeC_zero]; kernel_rfl
  obtain ⟨zc, hzc⟩ : ∃ zc, zc = codeC (fun _ => (0, 0)) := ⟨_, rfl⟩
  have hz43 := size43 (fun _ => (0, 0))
  have hone := codeC_one (fun _ => (0, 0))
  rw [← hzc] at hz hz43 hone hbld
  have hsz := tabCells_size ct (.slice A len c) hct
  obtain ⟨cells, hcells⟩ : ∃ cells, cells = tabCells ct (.slice A len c) := ⟨_, rfl⟩
  rw [← hcells] at hsz ⊢
  have hB1 : Blk (((W.alloc (.cells cells 27)).alloc (.cells zc 43)).alloc (.cells zc 43)) W.heap.size 27 cells := ((Blk.new W 27 _).alloc _).alloc _
  have hR1 : Blk (((W.alloc (.cells cells 27)).alloc (.cells zc 43)).alloc (.cells zc 43)) (W.heap.size + 1) 43 zc := by
    have := (Blk.new (W.alloc (.cells cells 27)) 43 zc).alloc (.cells zc 43)
    rwa [World.size_alloc] at this
  have hO1 : Blk (((W.alloc (.cells cells 27)).alloc (.cells zc 43)).alloc (.cells zc 43)) (W.heap.size + 1 + 1) 43 zc := by
    have := (Blk.new ((W.alloc (.cells cells 27)).alloc (.cells zc 43)) 43 zc)
    rwa [World.size_alloc, World.size_alloc] at this
  have hbe1 : Below W.heap.size W (((W.alloc (.cells cells 27)).alloc (.cells zc 43)).alloc (.cells zc 43)) := (((Below.refl _ _).alloc (Nat.le_refl _) _).alloc (by simp) _).alloc (by simp; omega) _
  have hC : ∀ w, Below W.heap.size W w → Calls Try.prog 25 #[.agg cells] w fun e w' => e = .returned (.bool (checkS ct vs)) ∧ Below w.heap.size w w' := fun w hb => by
    have := rcheck_any ct vs A len c w hct hw hlen ((hr.below hb).more hb.size) hl
    rwa [← hcells] at this
  have hi27 : (Try.prog.info? 27).map (·.size) = some cells.size := by rw [hsz]; kernel_rfl
  have HZC := Lib.hid hzc
  have HCELLS := Lib.hid hcells
  clear hzc hcells
  have hsz1 : (((W.alloc (.cells cells 27)).alloc (.cells zc 43)).alloc (.cells zc 43)).heap.size = W.heap.size + 1 + 1 + 1 := by simp
  by_cases hck : checkS ct vs = true
  · have hgood : ∀ x ∈ ct, 0 ≤ x ∧ x ≤ 255 := Classical.byContradiction fun h => by rw [checkS_bad ct vs h] at hck; cases hck
    obtain ⟨cn, rfl, hcl, hcb⟩ := natsI_of hgood
    have hcn16 : cn.length = 16 := by rw [hcl]; exact hct
    have hF := codesF_yes cn vs hck
    rw [hF]
    rw [hck] at hC
    have hck2 := hck
    rw [checkS_nat cn vs hcb, decide_eq_true_eq] at hck2
    obtain ⟨c1, c2, c3, c4⟩ := hck2
    rw [hlen] at c1
    have HLEN := Lib.hid hlen
    have HM := Lib.hid c1
    have HHR := Lib.hid hr
    have hla' := tabCells_last (natsI cn) (.slice A len c) hct
    rw [← HCELLS.out] at hla'
    have HLA := Lib.hid hla'
    have HZ43 := Lib.hid hz43
    have HC := Lib.hid hC
    have hat : ∀ i, i < 16 → cells[i]? = some (.int .i64 (cn.getD i 0 : Nat)) := fun i hi => by
      rw [HCELLS.out, tabCells_at _ _ i (by simp [natsI]; omega)]
      simp [natsI, List.getD_eq_getElem?_getD, List.getElem?_map, List.getElem?_eq_getElem (show i < cn.length by omega)]
    have hdr : ∀ i, i < 16 → cn.drop i = cn.getD i 0 :: cn.drop (i + 1) := fun i hi => by
      rw [List.drop_eq_getElem_cons (by omega), List.getD_eq_getElem?_getD, List.getElem?_eq_getElem (by omega)]; rfl
    have hlast : cn.drop 16 = [] := List.drop_of_length_le (by omega)
    have hb : ∀ i, i < 16 → cn.getD i 0 ≤ 255 := fun i hi => by
      rw [List.getD_eq_getElem?_getD, List.getElem?_eq_getElem (by omega : i < cn.length)]
      exact hcb _ (List.getElem_mem _)
    obtain ⟨L, hL⟩ : ∃ L, L = laidC cn 0 0 0 := ⟨_, rfl⟩
    rw [← hL]
    have hL0 : L = [] ++ laidC (cn.drop 0) 0 0 0 := by rw [hL]; rfl
    have hmem : ∀ e ∈ L, e.1 < len := fun e he => by rw [hL] at he; obtain ⟨_, _, _, h⟩ := laidC_mem he; rw [Nat.zero_add, HM.out] at h; exact h
    have HL0 := Lib.hid hL0
    have HAT := Lib.hid hat
    have HDR := Lib.hid hdr
    have HBD := Lib.hid hb
    have HLAST := Lib.hid hlast
    have HMEM := Lib.hid hmem
    clear hF hck hgood hct hw hcl c1 c3 c4 hlen hr hla' hC hat hdr hb hlast hL0 hL hmem
    go_enter Try.func16, Try.ntmps16
    go_wp2_with (first | (refine wpList_load_blk rfl 27 (.tmp 1) rfl W.heap.size rfl 27 _ _ (by assumption) Try.underlying27 rfl hi27 ?_) | (refine wpList_store_blk rfl 43 (.tmp 3) (.tmp 8) rfl (W.heap.size + 1 + 1) rfl 43 zc zc rfl hO1 hz43 rfl hone ?_; intro w0 hO0 hg0 hs0; rw [hsz1] at hs0; have hB0 := hB1.grown hg0 (fun e => by injection e with e; omega); have hR0 := hR1.grown hg0 (fun e => by injection e with e; omega); have hbe0 := hbe1.grown hg0 (by rw [hsz1]; omega) (fun k e => by cases e; omega); have HS0 := Lib.hid hs0; clear hs0 hg0 hB1 hR1 hbe1 hO1 hsz1) | (go_at_call 25; refine (HC.out _ (by assumption)).mono ?_; rintro e w1 ⟨rfl, hbw⟩; have hT2 := hB0.below hbw (by rw [HS0.out]; omega); have hR2 := hR0.below hbw (by rw [HS0.out]; omega); have hO2 := hO0.below hbw (by rw [HS0.out]; omega); have hbe2 := hbe0.trans (hbw.mono (by rw [HS0.out]; omega)); have hsz2 := hbw.size; clear hbw hB0 hR0 hO0 hbe0))
    rw [HS0.out] at hsz2
    have hO2' : Blk w1 (W.heap.size + 1 + 1) 43 (codeC (codeOf vs [])) := by
      rw [show codeOf vs [] = fun _ => (0, 0) from rfl, ← HZC.out]; exact hO2
    clear hO2 HS0 w0
    have HHZ := Lib.hid hz
    have HBL := Lib.hid hbld
    clear hz hbld
    go_loopw [4, 5, 6] (fun code at_ n (w : World) => ∃ (i a b : Nat) (pre : List (Nat × Nat × Nat)), i ≤ 16 ∧ n = .int .i64 ((i : Int) + 1) ∧ code = .int .i64 b ∧ at_ = .int .i64 a ∧ a ≤ 255 * i ∧ b + 255 ≤ 255 * 2 ^ i ∧ L = pre ++ laidC (cn.drop i) i a b ∧ Blk w W.heap.size 27 cells ∧ Blk w (W.heap.size + 1) 43 zc ∧ Blk w (W.heap.size + 1 + 1) 43 (codeC (codeOf vs pre)) ∧ Below W.heap.size W w) (fun _ _ n _ => 17 - (intOf n).toNat)
    case atStart => exact ⟨0, 0, 0, [], by omega, rfl, rfl, rfl, by omega, by simp, HL0.out, hT2, hR2, hO2', hbe2⟩
    case round =>
      obtain ⟨i, a, b, pre, hi, rfl, rfl, rfl, ha, hb, hLp, hT, hR, hO, hbe⟩ := hrel
      have HLp := Lib.hid hLp
      clear hLp
      have p1 : 2 ^ i ≤ 2 ^ 16 := Nat.pow_le_pow_right (by omega) hi
      by_cases hlt : i < 16
      · have hx := HAT.out i hlt
        have hL2 := HLp.out
        rw [HDR.out i hlt, laidC] at hL2
        have hbd := HBD.out i hlt
        obtain ⟨c', hc⟩ : ∃ c', c' = cn.getD i 0 := ⟨_, rfl⟩
        rw [← hc] at hx hL2 hbd
        clear hc
        have HL2 := Lib.hid hL2
        have HX := Lib.hid hx
        have p2 : 2 ^ (i + 1) = 2 * 2 ^ i := by rw [Nat.pow_succ]; omega
        have P2 := Lib.hid p2
        clear hL2 hx p2
        have hb2 : 2 * b + c' + 255 ≤ 255 * 2 ^ (i + 1) := by rw [P2.out]; omega
        have HB2 := Lib.hid hb2
        clear hb2
        have hd16 : decide ((i : Int) + 1 ≤ 16) = true := by simp; omega
        go_wp2_with fail
        go_loopw [4, 5, 7] (fun code at_ k (w : World) => ∃ (m a' b' : Nat) (pre' : List (Nat × Nat × Nat)), m ≤ c' ∧ k = .int .i64 m ∧ at_ = .int .i64 a' ∧ code = .int .i64 b' ∧ a' = a + m ∧ b' = 2 * b + m ∧ L = pre' ++ (lev i (c' - m) a' b' ++ laidC (cn.drop (i + 1)) (i + 1) (a + c') (2 * b + c')) ∧ Blk w W.heap.size 27 cells ∧ Blk w (W.heap.size + 1) 43 zc ∧ Blk w (W.heap.size + 1 + 1) 43 (codeC (codeOf vs pre')) ∧ Below W.heap.size W w) (fun _ _ k _ => c' - (intOf k).toNat)
        case atStart => exact ⟨0, a, 2 * b, pre, by omega, rfl, rfl, by go_num, rfl, rfl, HL2.out, hT, hR, hO, hbe⟩
        case round =>
          obtain ⟨m, a', b', pre', hm, rfl, rfl, rfl, ham, hbm, hLp', hT', hR', hO', hbe'⟩ := hrel
          have HLp' := Lib.hid hLp'
          have HAM := Lib.hid ham
          have HBM := Lib.hid hbm
          have hb3 : b' ≤ 67108864 := by omega
          have ha3 : a' ≤ 8192 := by omega
          clear hLp' ham hbm
          have hci : wr.cell? ⟨W.heap.size, i, none⟩ = some (.int .i64 c') := by rw [hT'.cell]; exact HX.out
          have hc16 : wr.cell? ⟨W.heap.size, 16, none⟩ = some (.slice A len c) := by rw [hT'.cell]; exact HLA.out
          by_cases hlt2 : m < c'
          · obtain ⟨k, hk⟩ : ∃ k, c' - m = k + 1 := ⟨c' - m - 1, by omega⟩
            have hL3 := HLp'.out
            rw [hk, lev] at hL3
            have m3 : a' < len := HMEM.out (a', i + 1, b') (by rw [hL3]; simp)
            obtain ⟨ad, u, rfl, _, hx, hcx⟩ := (HHR.out.below hbe').at_ (k := a') m3
            have hx' : vs[a']? = some (vs.getD a' 0) := by rw [List.getD_eq_getElem?_getD, List.getElem?_eq_getElem (by rw [HLEN.out]; exact m3)]; rfl
            obtain rfl : u = .int .u8 (vs.getD a' 0) := by
              rw [bytesV, List.getElem?_map, hx'] at hx; simpa using hx.symm
            obtain ⟨v0, v1⟩ := getD_bd hvb a'
            obtain ⟨vn, hvn⟩ : ∃ vn : Nat, vs.getD a' 0 = vn := ⟨(vs.getD a' 0).toNat, by omega⟩
            rw [hvn] at hcx v0 v1
            have hv256 : vn < 256 := by omega
            have hs0 : wr.cell? ⟨W.heap.size + 1 + 1, vn * 2, none⟩ = some (.int .i64 (codeOf vs pre' vn).1) := by rw [hO'.cell, codeC_n _ _ hv256]
            have hs1 : wr.cell? ⟨W.heap.size + 1 + 1, vn * 2 + 1, none⟩ = some (.int .i64 (codeOf vs pre' vn).2) := by rw [hO'.cell, codeC_v _ _ hv256]
            have hf0 := hO'.frozen (vn * 2)
            have hf1 := hO'.frozen (vn * 2 + 1)
            have t0 : (0 : Int) ≤ (a' : Int) := Int.natCast_nonneg _
            have t1 : (a' : Int) < (len : Int) := by omega
            have t2 : (0 : Int) ≤ (vn : Int) := Int.natCast_nonneg _
            have t3 : (vn : Int) < 256 := by omega
            have HL3 := Lib.hid hL3
            have HVN := Lib.hid hvn
            have HK := Lib.hid hk
            have hS' : Blk ((wr.setCell ⟨W.heap.size + 1 + 1, vn * 2, none⟩ (.int .i64 ((i : Int) + 1))).setCell ⟨W.heap.size + 1 + 1, vn * 2 + 1, none⟩ (.int .i64 b')) (W.heap.size + 1 + 1) 43 (codeC (codeOf vs (pre' ++ [(a', i + 1, b')]))) := by
              rw [← codeC_snoc vs pre' (a', i + 1, b') vn hv256 hvn]
              exact (hO'.set_ (vn * 2) _).set_ (vn * 2 + 1) _
            clear hL3 hvn hk hx hx' hl
            go_wp2_with fail
            go_roundw
            case rel =>
              refine ⟨m + 1, a' + 1, b' + 1, pre' ++ [(a', i + 1, b')], by omega, by go_num, by go_num, by go_num, by have := HAM.out; omega, by have := HBM.out; omega, ?_, ?_, ?_, hS', ((hbe'.setCell (p := ⟨W.heap.size + 1 + 1, vn * 2, none⟩) (by simp; omega) _).setCell (p := ⟨W.heap.size + 1 + 1, vn * 2 + 1, none⟩) (by simp; omega) _)⟩
              · rw [show c' - (m + 1) = k by have := HK.out; omega, List.append_assoc]; exact HL3.out
              · exact ((hT'.far (p := ⟨W.heap.size + 1 + 1, vn * 2, none⟩) (by simp; omega) _).far (p := ⟨W.heap.size + 1 + 1, vn * 2 + 1, none⟩) (by simp; omega) _)
              · exact ((hR'.far (p := ⟨W.heap.size + 1 + 1, vn * 2, none⟩) (by simp) _).far (p := ⟨W.heap.size + 1 + 1, vn * 2 + 1, none⟩) (by simp) _)
            case measure => simp [intOf]; omega
          · obtain rfl : m = c' := by omega
            have hL3 := HLp'.out
            rw [Nat.sub_self, lev, List.nil_append, ← HAM.out, ← HBM.out] at hL3
            have HL3 := Lib.hid hL3
            clear hL3
            go_wp2_with fail
            go_roundw
            case rel => exact ⟨i + 1, a', b', pre', by omega, by go_num, rfl, rfl, by have := HAM.out; omega, by have := HBM.out; have := HB2.out; omega, HL3.out, hT', hR', hO', hbe'⟩
            case measure => simp [intOf]; omega
      · obtain rfl : i = 16 := by omega
        have hL2 := HLp.out
        rw [HLAST.out, laidC, List.append_nil] at hL2
        have hzs := size43 (codeOf vs pre)
        have hon := codeC_one (codeOf vs pre)
        have HL2 := Lib.hid hL2
        obtain ⟨out, hout⟩ : ∃ out, out = codeC (codeOf vs pre) := ⟨_, rfl⟩
        rw [← hout] at hO hzs hon
        have hos : zc.size = out.size := Option.some.inj (HZ43.out.symm.trans hzs)
        have HOS := Lib.hid hos
        have HOUT := Lib.hid hout
        clear hout hos hz43 hL2 hi27
        go_wp2_with (first | (refine wpList_load_blk rfl 43 (.tmp 3) rfl (W.heap.size + 1 + 1) rfl 43 _ _ hO Try.underlying43 rfl hzs ?_) | (refine wpList_store_blk rfl 43 (.tmp 2) (.tmp 41) rfl (W.heap.size + 1) rfl 43 zc out rfl hR hzs HOS.out hon ?_; intro w5 hR5 hg5 hs5))
        exact bodyPost_ret (v := .agg out) (results_cell_blk rfl _ _ (W.heap.size + 1) 43 out _ rfl hR5 Try.underlying43 rfl hzs) rfl ⟨by rw [HOUT.out, HL2.out], hbe.grown hg5 hbe.size (fun k e => by cases e; simp)⟩
  · have hck : checkS ct vs = false := by simpa using hck
    have hF := codesF_no ct vs hck
    rw [hF, ← HZC.out]
    rw [hck] at hC
    have HCK := Lib.hid hck
    have HC := Lib.hid hC
    clear hF hck hC
    go_enter Try.func16, Try.ntmps16
    go_wp2_with (first | (refine wpList_load_blk rfl 27 (.tmp 1) rfl W.heap.size rfl 27 _ _ (by assumption) Try.underlying27 rfl hi27 ?_) | (refine wpList_store_blk rfl 43 (.tmp 3) (.tmp 8) rfl (W.heap.size + 1 + 1) rfl 43 zc zc rfl hO1 hz43 rfl hone ?_; intro w0 hO0 hg0 hs0; rw [hsz1] at hs0; have hB0 := hB1.grown hg0 (fun e => by injection e with e; omega); have hR0 := hR1.grown hg0 (fun e => by injection e with e; omega); have hbe0 := hbe1.grown hg0 (by rw [hsz1]; omega) (fun k e => by cases e; omega); have HS0 := Lib.hid hs0; clear hs0 hg0 hB1 hR1 hbe1 hO1 hsz1) | (go_at_call 25; refine (HC.out _ (by assumption)).mono ?_; rintro e w1 ⟨rfl, hbw⟩; have hR2 := hR0.below hbw (by rw [HS0.out]; omega); have hO2 := hO0.below hbw (by rw [HS0.out]; omega); have hbe2 := hbe0.trans (hbw.mono (by rw [HS0.out]; omega)); clear hO0 hR0 hB0) | (refine wpList_load_blk rfl 43 (.tmp 3) rfl (W.heap.size + 1 + 1) rfl 43 _ _ (by assumption) Try.underlying43 rfl hz43 ?_) | (refine wpList_store_blk rfl 43 (.tmp 2) (.tmp 12) rfl (W.heap.size + 1) rfl 43 zc zc rfl (by assumption) hz43 rfl hone ?_; intro w2 hR3 hg3 hs3))
    exact bodyPost_ret (v := .agg zc) (results_cell_blk rfl _ _ (W.heap.size + 1) 43 zc _ rfl hR3 Try.underlying43 rfl hz43) rfl ⟨rfl, hbe2.grown hg3 hbe2.size (fun k e => by cases e; simp)⟩
end Go.Proofs.Ytbjcjddaaegheaa
