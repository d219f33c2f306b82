/- law13.known: the chapter's example holds. -/
import Derived.Test.YtbjcjddaaegheaaTabAt
namespace Go.Proofs.Ytbjcjddaaegheaa
open Go.RowKit

theorem known_dc : (dcF 0 0) = (2, 0) := by decide +kernel
theorem known_ac : (acF 0 0) = (4, 10) := by decide +kernel
theorem known_read : blockRead [43] 0 0 (dcC 0) (stdV 0 0) (acC 0) (stdV 1 0) = some (List.replicate 64 0, 6) := by decide +kernel
theorem known_groups : groupsS (dcF 0) (acF 0) (List.replicate 64 0) 0 = [[(2, 0), (0, 0)], [(4, 10)]] := by
  have h1 := known_dc
  have h2 := known_ac
  have hs : sizeS 0 = 0 := by decide
  have hl : lowS 0 = 0 := by decide
  simp [groupsS, grpS, codeP, tailP, List.replicate, h1, h2, hs, hl]
theorem zigged_zero : Zigged (List.replicate 64 0) := Near.zigged ⟨by simp, fun i => by rw [List.getD_eq_getElem?_getD, List.getElem?_replicate]; split <;> simp⟩
theorem bytes43 : AreBytes [43] := by unfold AreBytes; decide

theorem wpList_ran_want {P : Program} {ops : Array Oper} {rest : List Oper} {o : Oper} {a : Act} {w : World} {Q : Exit → Act → World → Prop} (hw : Region.wanted o (yielded ops a.tmps) = true) (v : Value)
    (hrun : (execOp a.eval o).run P w = .ok (.value v) w) (h : wpList P ops Q rest (a.put o.dst v) w) : wpList P ops Q (o :: rest) a w :=
  BigFrame.wpList_want hw fun _ hK => by
    unfold Oper.wp
    rw [hrun]
    exact hK _ _ h
theorem two_of {α : Type} {hs : List α} {n : Nat} (h : hs.length = n) (hn : n = 2) : ∃ a b, hs = [a, b] := by
  subst hn
  match hs, h with
  | [a, b], _ => exact ⟨a, b, rfl⟩
set_option maxRecDepth 100000 in
set_option maxHeartbeats 2000000 in
theorem known_any (W : World) : Calls Try.prog 8 #[] W fun e w' => e = .returned (.bool true) ∧ Below W.heap.size W w' := by
  have hg0 := goodDC 0
  have hg1 := goodAC 0
  have hp : stdP 0 = 0 := rfl
  rw [hp] at hg0 hg1
  have hz : ∀ w, (zeroValue 43).run Try.prog w = .ok (.agg (codeC fun _ => (0, 0))) w := fun w => by rw [codeC_zero]; exact zero43 w
  obtain ⟨zc, hzc⟩ : ∃ zc, zc = codeC (fun _ => (0, 0)) := ⟨_, rfl⟩
  have hos0 : zc.size = (codeC (dcF 0)).size := by rw [hzc, codeC_size, codeC_size]
  have hos1 : zc.size = (codeC (acF 0)).size := by rw [hzc, codeC_size, codeC_size]
  have hs0 := size43 (dcF 0)
  have hs1 := size43 (acF 0)
  have ho0 := codeC_one (dcF 0)
  have ho1 := codeC_one (acF 0)
  have hgr := fun W => groups_any (List.replicate 64 0) 0 (dcF 0) (acF 0) W zigged_zero (by omega) (by omega)
  rw [← hzc] at hz
  obtain ⟨cd, hcd⟩ : ∃ cd, cd = codeC (dcF 0) := ⟨_, rfl⟩
  obtain ⟨ca, hca⟩ : ∃ ca, ca = codeC (acF 0) := ⟨_, rfl⟩
  obtain ⟨z0, hz0⟩ : ∃ z0, z0 = intsC (List.replicate 64 0) := ⟨_, rfl⟩
  have hrd : ∀ tc W, TabAt W tc (dcC 0) (stdV 0 0) → Calls Try.prog 16 #[.agg tc] W fun e w' => e = .returned (.agg cd) ∧ Below W.heap.size W w' := fun tc W h => by rw [hcd]; exact rcodes_at tc _ _ W hg0 h
  have hra : ∀ tc W, TabAt W tc (acC 0) (stdV 1 0) → Calls Try.prog 16 #[.agg tc] W fun e w' => e = .returned (.agg ca) ∧ Below W.heap.size W w' := fun tc W h => by rw [hca]; exact rcodes_at tc _ _ W hg1 h
  rw [← hcd] at hos0 hs0 ho0 hgr
  rw [← hca] at hos1 hs1 ho1 hgr
  rw [← hz0] at hgr
  have HOS0 := Lib.hid hos0
  have HOS1 := Lib.hid hos1
  have HRD := Lib.hid hrd
  have HRA := Lib.hid hra
  have HGR := Lib.hid hgr
  have HG0 := Lib.hid hg0
  have HG1 := Lib.hid hg1
  have HBL : Hid (∀ (a : Act) (w : World), (execOp a.eval { dst := some 11, op := Op.build 33 #[], type := 33, pos := "law.go:18", after := #[], guard := none }).run Try.prog w = .ok (.value (.agg z0)) w) := Lib.hid (fun a w => by rw [hz0]; kernel_rfl)
  have HZ0 := Lib.hid hz0
  have KD : Hid (∀ W, Calls Try.prog 20 #[.int .i64 0, .int .i64 0] W fun e w' => ∃ tc, e = .returned (.agg tc) ∧ TabAt w' tc (dcC 0) (stdV 0 0) ∧ Below W.heap.size W w') := Lib.hid (std_dc 0)
  have KA : Hid (∀ W, Calls Try.prog 20 #[.int .i64 1, .int .i64 0] W fun e w' => ∃ tc, e = .returned (.agg tc) ∧ TabAt w' tc (acC 0) (stdV 1 0) ∧ Below W.heap.size W w') := Lib.hid (std_ac 0)
  have KR : Hid (∀ (A : Option Addr) (dc ac : Array Value) (w : World), Reads w w.heap.size 1 A 1 (bytesV [43]) → TabAt w dc (dcC 0) (stdV 0 0) → TabAt w ac (acC 0) (stdV 1 0) → Calls Try.prog 18 #[.slice A 1 1, .int .i64 0, .int .i64 0, .agg dc, .agg ac] w fun e w' => e = .returned (.tuple #[.agg z0, .int .i64 6, .bool true]) ∧ Below w.heap.size w w') := Lib.hid (fun A dc ac w h1 h2 h3 => by
    have := bread_at A 1 1 [43] 0 0 dc ac (dcC 0) (stdV 0 0) (acC 0) (stdV 1 0) w rfl bytes43 h1 (by omega) (by omega) (by omega) (by omega) (by omega) hg0 h2 hg1 h3
    rw [known_read] at this
    rw [hz0]
    exact this)
  have hsz0 : (Try.prog.info? 33).map (·.size) = some z0.size := by rw [hz0]; exact size33 _ (by simp)
  have hone0 : z0.all (·.oneCell') = true := by rw [hz0]; exact intsC_one _
  have hzz : ∀ w, (zeroValue 33).run Try.prog w = .ok (.agg z0) w := by rw [hz0]; exact zero33
  have HEQ : Hid (∀ (a : Act) (w : World), a.eval (.tmp 70) = .agg z0 → a.eval (.tmp 71) = .agg z0 → ∀ o : Oper, o.op = .binOp .eql 33 (.tmp 70) (.tmp 71) 33 → (execOp a.eval o).run Try.prog w = .ok (.value (.bool true)) w) := Lib.hid (fun a w h1 h2 o ho => by
    unfold execOp
    simp only [ho, h1, h2, hz0]
    show _ = _
    kernel_rfl)
  have HBL2 : Hid (∀ (a : Act) (w : World) (o : Oper), o.op = .build 33 #[] → (execOp a.eval o).run Try.prog w = .ok (.value (.agg z0)) w) := Lib.hid (fun a w o ho => by unfold execOp; simp only [ho]; rw [hz0]; show _ = _; kernel_rfl)
  clear hg0 hg1 hp hcd hca hos0 hos1 hrd hra hgr hzc hz0
  go_enter Try.func8, Try.ntmps8
  go_wp2_with fail
  go_at_call 20
  refine (KD.out _).mono ?_
  rintro e w1 ⟨tc, rfl, ht1, hb1⟩
  go_wp2_with fail
  refine (HRD.out _ _ ht1).mono ?_
  rintro e w2 ⟨rfl, hb2⟩
  have hbe2 := hb1.trans (hb2.mono hb1.size)
  have hn2 := Blk.new w2 43 zc
  have hbe2' := hbe2.alloc hbe2.size (.cells zc 43)
  go_wp2_with (refine wpList_store_blk rfl 43 (.tmp 1) (.tmp 8) rfl w2.heap.size rfl 43 zc cd rfl hn2 hs0 HOS0.out ho0 ?_; intro w3 hB3 hg3 hs3; clear hs3)
  go_at_call 20
  have hbe3 := hbe2'.grown hg3 (by have := hbe2.size; simp; omega) (fun k e => by cases e; exact hbe2.size)
  clear ht1 hb1 hb2 hn2 hbe2' hg3
  have hl3 := hbe2.size
  generalize w2.heap.size = g2 at *
  refine (KA.out _).mono ?_
  rintro e w4 ⟨tc2, rfl, ht4, hb4⟩
  have hB4 := hB3.below hb4 hB3.lt
  have hbe4 := hbe3.trans (hb4.mono hbe3.size)
  go_wp2_with fail
  refine (HRA.out _ _ ht4).mono ?_
  rintro e w5 ⟨rfl, hb5⟩
  have hB5 := hB4.below hb5 hB4.lt
  have hbe5 := hbe4.trans (hb5.mono hbe4.size)
  have hn5 := Blk.new w5 43 zc
  have hB5' := hB5.alloc (.cells zc 43)
  have hbe5' := hbe5.alloc hbe5.size (.cells zc 43)
  clear ht4 hb4 hb5 hB3 hB4 hbe4 hbe2 hbe3
  go_wp2_with (first | (refine wpList_store_blk rfl 43 (.tmp 2) (.tmp 10) rfl w5.heap.size rfl 43 zc ca rfl hn5 hs1 HOS1.out ho1 ?_; intro w6 hC6 hg6 hs6; clear hs6; have hB6 := hB5'.grown hg6 (fun e => by injection e with e; have := hB5.lt; omega); have hbe6 := hbe5'.grown hg6 (by have := hbe5.size; simp; omega) (fun k e => by cases e; exact hbe5.size)) | (refine wpList_ran (o := ⟨some 11, _, _, _, _, _⟩) rfl _ (HBL.out _ _) ?_) | (refine wpList_load_blk rfl 43 (.tmp 1) rfl g2 rfl 43 _ _ hB6 Try.underlying43 rfl hs0 ?_) | (refine wpList_load_blk rfl 43 (.tmp 2) rfl w5.heap.size rfl 43 _ _ hC6 Try.underlying43 rfl hs1 ?_))
  clear hB5 hB5' hbe5 hbe5' hn5 hg6
  refine (HGR.out _).mono ?_
  rw [known_groups]
  rintro e w7 ⟨v, rfl, hro, hb7⟩
  have hbe7 := hbe6.trans (hb7.mono hbe6.size)
  have hro7 := hro.base hbe6.size
  have hn8 := Blk.new w7 5 #[.int .u8 43]
  have hb8 : Below w7.heap.size w7 (w7.alloc (.cells #[.int .u8 43] 5)) := (Below.refl _ _).alloc (Nat.le_refl _) _
  have hbe8 := hbe7.trans (hb8.mono hbe7.size)
  have hro8 := hro7.below hb8 (Nat.le_refl _)
  clear hro hb7 hro7 hbe7 hb8 hbe6 hB6 hC6
  go_wp2_with fail
  go_at_call 20
  generalize w7.alloc (.cells #[.int .u8 43] 5) = w8 at *
  refine (KD.out _).mono ?_
  rintro e w9 ⟨tc3, rfl, ht9, hb9⟩
  have hn9 := hn8.below hb9 hn8.lt
  have hbe9 := hbe8.trans (hb9.mono hbe8.size)
  have hro9 := hro8.below hb9 (Nat.le_refl _)
  clear hn8 hbe8 hro8 hb9
  go_wp2_with fail
  go_at_call 20
  refine (KA.out _).mono ?_
  rintro e w10 ⟨tc4, rfl, ht10, hb10⟩
  have hn10 := hn9.below hb10 hn9.lt
  have hbe10 := hbe9.trans (hb10.mono hbe9.size)
  have hro10 := hro9.below hb10 (Nat.le_refl _)
  have ht10' := ht9.below hb10
  have hr10 : Reads w10 w10.heap.size 1 (some ⟨w7.heap.size, 0, none⟩) 1 (bytesV [43]) := ⟨rfl, fun _ => ⟨_, rfl, hn10.lt, fun j u hu => by rw [Addr.add_mid, hn10.cell, Nat.zero_add]; simpa [bytesV] using hu⟩⟩
  clear hn9 hbe9 hro9 hb10 ht9 hn10
  go_wp2_with fail
  refine (KR.out _ _ _ _ hr10 ht10' ht10).mono ?_
  rintro e w11 ⟨rfl, hb11⟩
  have hbe11 := hbe10.trans (hb11.mono hbe10.size)
  have hro11 := hro10.below hb11 (Nat.le_refl _)
  clear hbe10 hro10 hb11 ht10 ht10' hr10
  have hn12 := Blk.new w11 33 z0
  have hro12 := hro11.below (w' := w11.alloc (.cells z0 33)) ((Below.refl _ _).alloc (Nat.le_refl _) _) (Nat.le_refl _)
  have hbe12 := hbe11.alloc hbe11.size (.cells z0 33)
  go_wp2_with (first | (refine wpList_store_blk rfl 33 (.tmp 4) (.tmp 20) rfl w11.heap.size rfl 33 z0 z0 rfl hn12 hsz0 rfl hone0 ?_; intro w13 hB13 hg13 hs13; clear hs13; have hbe13 := hbe12.grown hg13 (by have := hbe11.size; simp; omega) (fun k e => by cases e; exact hbe11.size); have hro13 := hro11.below (((Below.refl w11.heap.size w11).alloc (Nat.le_refl _) (.cells z0 33)).grown hg13 (by simp) (fun k e => by cases e; exact Nat.le_refl _)) (Nat.le_refl _); clear hro11 hro12 hg13 hn12 hbe12 hbe11; obtain ⟨hs, hl, ho, hi⟩ := hro13; obtain ⟨h0, h1, rfl⟩ : ∃ a b, hs = [a, b] := two_of hl rfl; have r0 := hi 0 h0 [(2, 0), (0, 0)] rfl rfl; have r1 := hi 1 h1 [(4, 10)] rfl rfl; obtain ⟨g, cap, rfl⟩ := own_slice ho (by decide); obtain ⟨q0, c0, rfl⟩ := own_slice r0 (by decide); obtain ⟨q1, c1, rfl⟩ := own_slice r1 (by decide); have x0 := own_cell ho 0 _ rfl; have x1 := own_cell ho 1 _ rfl; have y00 := own_cell r0 0 _ rfl; have y10 := own_cell r0 2 _ rfl; have z00 := own_cell r1 0 _ rfl; have z01 := own_cell r1 1 _ rfl; simp only [List.length_cons, List.length_nil, Nat.zero_add, Nat.reduceAdd] at x0 x1 y00 y10 z00 z01 ⊢; clear ho hi r0 r1 hl) | (refine wpList_load_blk_want rfl 33 (.tmp 4) rfl w11.heap.size rfl 33 _ _ hB13 Try.underlying33 rfl hsz0 ?_) | (refine wpList_ran_want rfl _ (HBL2.out _ _ _ rfl) ?_) | (refine wpList_ran_want rfl _ (HEQ.out _ _ rfl rfl _ rfl) ?_))
  go_ret
  exact ⟨rfl, hbe13⟩
end Go.Proofs.Ytbjcjddaaegheaa
