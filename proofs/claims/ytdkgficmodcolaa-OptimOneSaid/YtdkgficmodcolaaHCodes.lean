/- huff.Codes: the codes of any table. -/
import Derived.Test.YtdkgficmodcolaaTabC
namespace Go.Proofs.Ytdkgficmodcolaa
open Go.RowKit Go.Shelf
attribute [local go_sem] Oper.semAt_some

attribute [local irreducible] wpStill
set_option maxRecDepth 100000 in
set_option maxHeartbeats 1000000 in
theorem hcodes_in (n : Nat) (hn : 4 ≤ n) (ct : List Int) (vs : List Int) (A : Option Addr) (len c : Nat) (W : World) (hct : ct.length = 16) (hw : ∀ x ∈ ct, (Lit.int .i64 x).wf = true) (hlen : vs.length = len) (hvb : AreBytes vs) (hr : Reads W W.heap.size 1 A len (bytesV vs)) (hl : len ≤ 9223372036854775807) :
    CallsIn Fence.wide n Try.prog 14 #[.agg (tabCells ct (.slice A len c))] W fun e w' => e = .returned (.agg (codeC (codesF ct vs))) ∧ Below W.heap.size W w' := by
  have h1 : 1 ≤ n := by omega
  have hro : Fence.wide.round = none := rfl
  have hz : ∀ w, (zeroValue 38).run Try.prog w = .ok (.agg (codeC fun _ => (0, 0))) w := fun w => by rw [codeC_zero]; exact zero38 w
  obtain ⟨zc, hzc⟩ : ∃ zc, zc = codeC (fun _ => (0, 0)) := ⟨_, rfl⟩
  have hz43 := size38 (fun _ => (0, 0))
  have hone := codeC_one (fun _ => (0, 0))
  rw [← hzc] at hz hz43 hone
  have hsz := tabCells_size ct (.slice A len c) hct
  obtain ⟨cells, hcells⟩ : ∃ cells, cells = tabCells ct (.slice A len c) := ⟨_, rfl⟩
  rw [← hcells] at hsz ⊢
  have hB1 : Blk (((W.alloc (.cells cells 30)).alloc (.cells zc 38)).alloc (.cells zc 38)) W.heap.size 30 cells := ((Blk.new W 30 _).alloc _).alloc _
  have hR1 : Blk (((W.alloc (.cells cells 30)).alloc (.cells zc 38)).alloc (.cells zc 38)) (W.heap.size + 1) 38 zc := by
    have := (Blk.new (W.alloc (.cells cells 30)) 38 zc).alloc (.cells zc 38)
    rwa [World.size_alloc] at this
  have hO1 : Blk (((W.alloc (.cells cells 30)).alloc (.cells zc 38)).alloc (.cells zc 38)) (W.heap.size + 1 + 1) 38 zc := by
    have := (Blk.new ((W.alloc (.cells cells 30)).alloc (.cells zc 38)) 38 zc)
    rwa [World.size_alloc, World.size_alloc] at this
  have hbe1 : Below W.heap.size W (((W.alloc (.cells cells 30)).alloc (.cells zc 38)).alloc (.cells zc 38)) := (((Below.refl _ _).alloc (Nat.le_refl _) _).alloc (by simp) _).alloc (by simp; omega) _
  have HC := (callsIn_wide (n := n - 1)).2 ((callsIn_wide (n := 3)).1 (hcheck_in 3 (by omega) ct vs A len c (((W.alloc (.cells cells 30)).alloc (.cells zc 38)).alloc (.cells zc 38)) hct hw hlen hvb ((hr.below hbe1).more hbe1.size) hl))
  rw [← hcells] at HC
  have hi27 : (Try.prog.info? 30).map (·.size) = some cells.size := by rw [hsz]; kernel_rfl
  have HZC := Lib.hid hzc
  have HCELLS := Lib.hid hcells
  clear hzc hcells
  have hsz1 : (((W.alloc (.cells cells 30)).alloc (.cells zc 38)).alloc (.cells zc 38)).heap.size = W.heap.size + 1 + 1 + 1 := by simp
  by_cases hck : checkS ct vs = true
  · have hgood : ∀ x ∈ ct, 0 ≤ x ∧ x ≤ 255 := Classical.byContradiction fun h => by rw [checkS_bad ct vs h] at hck; cases hck
    obtain ⟨cn, rfl, hcl, hcb⟩ := natsI_of hgood
    have hcn16 : cn.length = 16 := by rw [hcl]; exact hct
    have hF := codesF_yes cn vs hck
    rw [hF]
    rw [hck] at HC
    have hck2 := hck
    rw [checkS_nat cn vs hcb, decide_eq_true_eq] at hck2
    obtain ⟨c1, c2, c3, c4⟩ := hck2
    rw [hlen] at c1
    have HLEN := Lib.hid hlen
    have HM := Lib.hid c1
    have HHR := Lib.hid hr
    have hla' := tabCells_last (natsI cn) (.slice A len c) hct
    rw [← HCELLS.out] at hla'
    have HLA := Lib.hid hla'
    have HZ43 := Lib.hid hz43
    clear hF hck hgood hct hw hcl c1 c3 c4 hlen hr hla'
    refine callsIn_of_wp_marks Try.func14 rfl trivial ?_ hro
    simp only [Try.ntmps14, List.size_toArray, List.length_cons, List.length_nil, Nat.reduceAdd, Nat.reduceSub, Array.replicate_succ, Array.replicate_zero, List.push_toArray, List.append_toArray, List.nil_append, List.cons_append]
    gi_wp2_with (first | (refine wpListIn_load_blk rfl 30 (.tmp 1) rfl W.heap.size rfl 30 _ _ (by assumption) Try.underlying30 rfl hi27 ?_) | (refine ⟨trivial, ?_⟩; gi_at_call 13; refine HC.mono ?_; rintro e w1 ⟨rfl, hbw⟩; have hT2 := hB1.below hbw (by rw [hsz1]; omega); have hR2 := hR1.below hbw (by rw [hsz1]; omega); have hO2 := hO1.below hbw (by rw [hsz1]; omega); have hbe2 := hbe1.trans (hbw.mono (by rw [hsz1]; omega)); have hsz2 := hbw.size; clear hbw hB1 hR1 hO1 hbe1) | (refine ⟨trivial, ?_⟩; gi_at_call 21; refine (laid_in Fence.wide (n - 1) trivial hro _ _).mono ?_; rintro e w' ⟨rfl, rfl⟩))
    rw [hsz1] at hsz2
    have hO3 : Blk (w1.alloc (.cells cells 30)) (W.heap.size + 1 + 1) 38 (codeC (codeOf vs (raw (cn := cn) []))) := by
      rw [show codeOf vs (raw (cn := cn) []) = fun _ => (0, 0) from rfl, ← HZC.out]; exact hO2.alloc _
    have hR3 := hR2.alloc (.cells cells 30)
    have hT3 := hT2.alloc (.cells cells 30)
    have hbe3 := hbe2.alloc hbe2.size (.cells cells 30)
    have hL3 := Blk.new w1 30 cells
    have hsz3 : (w1.alloc (.cells cells 30)).heap.size = w1.heap.size + 1 := by simp
    obtain ⟨w3, hw3⟩ : ∃ w3, w1.alloc (.cells cells 30) = w3 := ⟨_, rfl⟩
    rw [hw3] at hO3 hR3 hT3 hbe3 hL3 hsz3 ⊢
    clear hw3 hT2 hR2 hO2 hbe2 hsz1 HC
    refine wpIn_rangeFunc_ownH (F := Fence.wide) hro h1 (gf := 28) (lb := #[.pointer (some ⟨w1.heap.size, 0, none⟩)]) rfl True.intro (enters_of Try.func28 (by kernel_rfl) rfl)
            (laid_stops Fence.wide (n - 1) trivial hro (by omega) W.heap.size w1.heap.size cn (.slice A len c) hcn16 hcb _ (by rw [← HCELLS.out]; exact hL3)) Below.trans (kb_below (by omega)) (Below.refl _ _) (fun _ => rfl)
            (fun pre W' => Blk W' W.heap.size 30 cells ∧ Blk W' (W.heap.size + 1) 38 zc ∧ Blk W' (W.heap.size + 1 + 1) 38 (codeC (codeOf vs (raw pre))) ∧ Below W.heap.size W W')
            (fun c pre W' => False)
            ?hI ?hIx ⟨hT3, hR3, hO3, hbe3⟩
            (fun x a' W' => ∃ d, Blk W' d 37 #[.int .i64 x.1.2.1, .int .i64 x.1.2.2] ∧ a' = { tmps := #[.agg cells, .pointer (some ⟨W.heap.size, 0, none⟩), .pointer (some ⟨W.heap.size + 1, 0, none⟩), .pointer (some ⟨W.heap.size + 1 + 1, 0, none⟩), .int .i64 x.1.1, .pointer (some ⟨d, 0, none⟩), .agg cells, .bool true, .bool false, undef, .agg cells, .func (.func 28) #[] #[.pointer (some ⟨w1.heap.size, 0, none⟩)], .int .i64 x.1.1, .agg #[.int .i64 x.1.2.1, .int .i64 x.1.2.2], undef, undef, undef, undef, undef, undef, undef, undef], defers := [] })
            ?hAx ?assign ?body ?done ?stop
    case hI => exact OwnFrom.and (Own.from (blk_own _ _ (fun _ => cells)) _) (OwnFrom.and (Own.from (blk_own _ _ (fun _ => zc)) _) (OwnFrom.and (Own.from (blk_own _ _ (fun pre => codeC (codeOf vs (raw pre)))) _) (ownFrom_below (Nat.le_refl _) (by omega))))
    case hIx => exact fun cd => ownFrom_pure _ (fun _ => False)
    case hAx =>
      rintro x a' _ X Y row ⟨d, hbk, e⟩ hg hrow
      exact ⟨d, hbk.grown hg (fun e' => by obtain ⟨_, o, ho, hc⟩ := hrow d e'.symm; rw [show X.heap[d]? = _ from hbk] at ho; cases ho; cases hc), e⟩
    case assign =>
      intro l pre x W' K hI hK
      simp only [encL]
      gi_wp2
      obtain ⟨hG, hX, hS, hbe⟩ := hI
      exact hK _ _ (KeepsFrom.of_grownBy (World.grownBy_alloc W' _ none) (fun r e => by cases e)) ((Below.refl _ _).alloc (by have := hbe.size; omega) _) ⟨hG.alloc _, hX.alloc _, hS.alloc _, hbe.alloc (by have := hbe.size; omega) _⟩ ⟨_, Blk.new W' 37 _, rfl⟩
    case body =>
      rintro l pre x a' W' hl hlr ⟨hG, hX, hS, hbe⟩ ⟨d, hbk, rfl⟩ hlt
      obtain ⟨m1, m2, _, m3⟩ := laidC_mem x.2
      rw [Nat.zero_add, HM.out] at m3
      rw [Nat.zero_add, hcn16] at m2
      obtain ⟨ad, u, rfl, _, hx, hcx⟩ := (HHR.out.below hbe).at_ (k := x.1.1) m3
      have hx' : vs[x.1.1]? = some (vs.getD x.1.1 0) := by rw [List.getD_eq_getElem?_getD, List.getElem?_eq_getElem (by rw [HLEN.out]; exact m3)]; rfl
      obtain rfl : u = .int .u8 (vs.getD x.1.1 0) := by
        rw [bytesV, List.getElem?_map, hx'] at hx; simpa using hx.symm
      obtain ⟨v0, v1⟩ := getD_bd hvb x.1.1
      obtain ⟨vn, hvn⟩ : ∃ vn : Nat, vs.getD x.1.1 0 = vn := ⟨(vs.getD x.1.1 0).toNat, by omega⟩
      rw [hvn] at hcx v0 v1
      have hv256 : vn < 256 := by omega
      have hc16 : W'.cell? ⟨W.heap.size, 16, none⟩ = some (.slice (some ad) len c) := by
        rw [hG.cell]; exact HLA.out
      have hs0 : W'.cell? ⟨W.heap.size + 1 + 1, vn * 2, none⟩ = some (.int .i64 (codeOf vs (raw pre) vn).1) := by rw [hS.cell, codeC_n _ _ hv256]
      have hs1 : W'.cell? ⟨W.heap.size + 1 + 1, vn * 2 + 1, none⟩ = some (.int .i64 (codeOf vs (raw pre) vn).2) := by rw [hS.cell, codeC_v _ _ hv256]
      have hd0 : W'.cell? ⟨d, 0, none⟩ = some (.int .i64 x.1.2.1) := hbk.cell 0
      have hd1 : W'.cell? ⟨d, 1, none⟩ = some (.int .i64 x.1.2.2) := hbk.cell 1
      have hf0 := hS.frozen (vn * 2)
      have hf1 := hS.frozen (vn * 2 + 1)
      have t0 : (0 : Int) ≤ (x.1.1 : Int) := Int.natCast_nonneg _
      have t1 : (x.1.1 : Int) < (len : Int) := by omega
      have HVN := Lib.hid hvn
      obtain ⟨⟨at_, N, V⟩, hxL⟩ := x
      simp only at *
      have t2 : (0 : Int) ≤ (vn : Int) := Int.natCast_nonneg _
      have t3 : (vn : Int) < 256 := by omega
      have hmx : Try.prog.follows .mixedOrders = true := by kernel_rfl
      clear hvn hx hx' hz hz43 hcb hlr hlt hT3 hR3 hO3 hL3 hbe3 hi27
      gi_wp2
      refine wpIn_region_still_tail 7 hmx (by kernel_rfl) (by rintro ⟨a, w, h⟩; simp only [Exit.inBlock] at h; exact h) (by kernel_rfl) ?_
      simp only [List.take_succ_cons, List.take_zero, List.drop_succ_cons, List.drop_zero]
      iterate 7 still_step
      refine wpStill_nil ?_
      go_wp2
      gi_wp2
      have hS' : Blk ((W'.setCell ⟨W.heap.size + 1 + 1, vn * 2, none⟩ (.int .i64 N)).setCell ⟨W.heap.size + 1 + 1, vn * 2 + 1, none⟩ (.int .i64 V)) (W.heap.size + 1 + 1) 38 (codeC (codeOf vs (raw (pre ++ [⟨(at_, N, V), hxL⟩])))) := by
        rw [raw_snoc, ← codeC_snoc vs (raw pre) (at_, N, V) vn hv256 HVN.out]
        exact (hS.set_ (vn * 2) _).set_ (vn * 2 + 1) _
      have hsz4 := hbe.size
      refine ⟨(((KeepsOthers.setCell _ _ _).trans (KeepsOthers.setCell _ _ _)).trans (KeepsOthers.drew _)).from _, (((Below.refl _ _).setCell (p := ⟨W.heap.size + 1 + 1, vn * 2, none⟩) (by simp; omega) _).setCell (p := ⟨W.heap.size + 1 + 1, vn * 2 + 1, none⟩) (by simp; omega) _).drew, ?_, ?_, hS'.drew, ((hbe.setCell (p := ⟨W.heap.size + 1 + 1, vn * 2, none⟩) (by simp; omega) _).setCell (p := ⟨W.heap.size + 1 + 1, vn * 2 + 1, none⟩) (by simp; omega) _).drew⟩
      · exact ((hG.far (p := ⟨W.heap.size + 1 + 1, vn * 2, none⟩) (by simp; omega) _).far (p := ⟨W.heap.size + 1 + 1, vn * 2 + 1, none⟩) (by simp; omega) _).drew
      · exact ((hX.far (p := ⟨W.heap.size + 1 + 1, vn * 2, none⟩) (by simp) _).far (p := ⟨W.heap.size + 1 + 1, vn * 2 + 1, none⟩) (by simp) _).drew
    case done =>
      rintro D ys W' hD hys ⟨hG, hX, hS, hbe⟩ hKD
      rw [hys] at hS
      have hzs := size38 (codeOf vs (laidC cn 0 0 0))
      have hon := codeC_one (codeOf vs (laidC cn 0 0 0))
      obtain ⟨out, hout⟩ : ∃ out, out = codeC (codeOf vs (laidC cn 0 0 0)) := ⟨_, rfl⟩
      rw [← hout] at hS hzs hon
      have HOUT := Lib.hid hout
      have hos : zc.size = out.size := Option.some.inj (HZ43.out.symm.trans hzs)
      have HOS := Lib.hid hos
      clear hout hos hz hz43 hcb hT3 hR3 hO3 hL3 hbe3 hi27
      gi_wp2_with (first | (refine wpListIn_load_blk rfl 38 (.tmp 3) rfl (W.heap.size + 1 + 1) rfl 38 _ _ hS Try.underlying38 rfl hzs ?_) | (refine wpListIn_store_blk rfl 38 (.tmp 2) (.tmp 21) rfl (W.heap.size + 1) rfl 38 zc out rfl hX hzs HOS.out hon ?_; intro w5 hR5 hg5 hs5))
      have hbe5 := hbe.grown hg5 (by have := hbe.size; omega) (fun k e => by cases e; simp)
      have hKD2 := (KeepsOthers.of_grownBy hg5 (fun j o e ho => by cases e; rw [show W'.heap[W.heap.size + 1]? = _ from hX] at ho; cases ho; rfl)).same D _ hKD rfl
      refine ⟨by simp, .inl ⟨_, _, rfl, run_takeDeferred hKD2, ?_⟩⟩
      refine ⟨_, results_cell_blk rfl _ _ (W.heap.size + 1) 38 out _ rfl (hR5.grown (grownBy_putObj' _ D (.deferred none)) (fun e => by cases e; rw [show w5.heap[W.heap.size + 1]? = _ from hR5] at hKD2; cases hKD2)) Try.underlying38 rfl hzs, by rw [HOUT.out], ?_⟩
      exact hbe5.trans (belowK_b (w := W) (Nat.le_refl _) _ D _ _ (by omega) hKD2 rfl rfl)
    case stop =>
      rintro D cd pre W' hD hpre h hKD
      exact h.elim
  · have hck : checkS ct vs = false := by simpa using hck
    have hF := codesF_no ct vs hck
    rw [hF, ← HZC.out]
    rw [hck] at HC
    have HCK := Lib.hid hck
    clear hF hck
    refine callsIn_of_wp_marks Try.func14 rfl trivial ?_ hro
    simp only [Try.ntmps14, List.size_toArray, List.length_cons, List.length_nil, Nat.reduceAdd, Nat.reduceSub, Array.replicate_succ, Array.replicate_zero, List.push_toArray, List.append_toArray, List.nil_append, List.cons_append]
    gi_wp2_with (first | (refine wpListIn_load_blk rfl 30 (.tmp 1) rfl W.heap.size rfl 30 _ _ hB1 Try.underlying30 rfl hi27 ?_) | (refine ⟨trivial, ?_⟩; gi_at_call 13; refine HC.mono ?_; rintro e w1 ⟨rfl, hbw⟩; have hR2 := hR1.below hbw (by simp); have hO2 := hO1.below hbw (by simp)) | (refine wpListIn_load_blk rfl 38 (.tmp 3) rfl (W.heap.size + 1 + 1) rfl 38 _ _ (by assumption) Try.underlying38 rfl hz43 ?_) | (refine wpListIn_store_blk rfl 38 (.tmp 2) (.tmp 9) rfl (W.heap.size + 1) rfl 38 zc zc rfl (by assumption) hz43 rfl hone ?_; intro w2 hR3 hg3 hs3))
    exact ⟨_, results_cell_blk rfl _ _ (W.heap.size + 1) 38 zc _ rfl hR3 Try.underlying38 rfl hz43, rfl, (hbe1.trans (hbw.mono (by simp; omega))).grown hg3 (by have := hbw.size; simp at this; omega) (fun k e => by cases e; simp)⟩
end Go.Proofs.Ytdkgficmodcolaa
