/- The reference's Read. -/
import Derived.Test.YtbjcjddaaegheaaRReadS
import Derived.Deep.Cut
import Derived.Deep.CutRange
import Derived.Deep.CutBlock
import Derived.Deep.RegionHeld3
import Derived.Test.YtbjcjddaaegheaaBRead
import Derived.Test.YtbjcjddaaegheaaRcodes
namespace Go.Proofs.Ytbjcjddaaegheaa
open Go.RowKit

theorem results_blk_tmp2 {P : Program} {fn : Func} {p q r : Tmp} {t : TypeId} (h : fn.results = #[.cell p t, .tmp q, .tmp r]) (tmps : Array Value) (w : World) (g : Nat) (T : TypeId) (cs : Array Value) (d : TypeDesc)
    (hp : tmps.getD p undef = .pointer (some ⟨g, 0, none⟩)) (hB : Blk w g T cs) (hu : P.underlying t = some d) (hd : d.isRow = true) (hi : (P.info? t).map (·.size) = some cs.size) :
    (results fn tmps).run P w = .ok (.tuple #[.agg cs, tmps.getD q undef, tmps.getD r undef]) w := by
  have hp' : tmps[p]?.getD undef = .pointer (some ⟨g, 0, none⟩) := by simpa using hp
  have e1 := run_loadVar_row (P := P) w g T t cs (0, 0) d hB hu (by cases d <;> simp_all [TypeDesc.isRow]) hi
  simp [results, h, hp', asAddr, e1]
/-- where the reference's Read stands at first: its tables, its result -/
structure Fst (W : World) (dc ac zc : Array Value) (w : World) : Prop where
  d : Blk w W.heap.size 27 dc
  a : Blk w (W.heap.size + 1) 27 ac
  z : Blk w (W.heap.size + 1 + 1) 33 zc
  b : Below W.heap.size W w
theorem Fst.below {W w w' : World} {dc ac zc : Array Value} (h : Fst W dc ac zc w) (hb : Below w.heap.size w w') : Fst W dc ac zc w' := by
  have := h.z.lt
  exact ⟨h.d.below hb (by omega), h.a.below hb (by omega), h.z.below hb (by omega), h.b.trans (hb.mono h.b.size)⟩
theorem Fst.start (W : World) (dc ac zc : Array Value) : Fst W dc ac zc (((W.alloc (.cells dc 27)).alloc (.cells ac 27)).alloc (.cells zc 33)) := by
  have e1 : (W.alloc (.cells dc 27)).heap.size = W.heap.size + 1 := by simp
  have e2 : ((W.alloc (.cells dc 27)).alloc (.cells ac 27)).heap.size = W.heap.size + 1 + 1 := by simp
  refine ⟨((Blk.new W 27 _).alloc _).alloc _, ?_, ?_, (((Below.refl _ _).alloc (Nat.le_refl _) _).alloc (by omega) _).alloc (by omega) _⟩
  · have := (Blk.new (W.alloc (.cells dc 27)) 27 ac).alloc (.cells zc 33)
    rwa [e1] at this
  · have := Blk.new ((W.alloc (.cells dc 27)).alloc (.cells ac 27)) 33 zc
    rwa [e2] at this
theorem Fst.stored {W w w' : World} {dc ac zc zc' : Array Value} (h : Fst W dc ac zc w) (hz : Blk w' (W.heap.size + 1 + 1) 33 zc') (hg : w.grownBy w' (some (W.heap.size + 1 + 1))) : Fst W dc ac zc' w' :=
  ⟨h.d.grown hg (fun e => by injection e with e; omega), h.a.grown hg (fun e => by injection e with e; omega), hz, h.b.grown hg h.b.size (fun k e => by injection e with e; omega)⟩

theorem Fst.grownG {W w w' : World} {dc ac zc : Array Value} (h : Fst W dc ac zc w) {g : Nat} (hg : w.grownBy w' (some g)) (hgt : W.heap.size + 1 + 1 < g) : Fst W dc ac zc w' :=
  ⟨h.d.grown hg (fun e => by injection e with e; omega), h.a.grown hg (fun e => by injection e with e; omega), h.z.grown hg (fun e => by injection e with e; omega), h.b.grown hg h.b.size (fun k e => by injection e with e; omega)⟩
theorem ac_tail {R : Option (List Int × Int)} {bs : List Int} {fa : Nat → Nat × Nat} {n k q v m : Nat} {ta ua un : Int} {uo o5 : Bool} {z : List Int}
    (hR : R = if 64 ≤ k + q then none else if v % 16 = 0 ∨ 10 < v % 16 then none else match peekR bs ta ((v % 16 : Nat) : Int) with
      | none => none
      | some x => acS bs fa n (k + q + 1) (ta + ((v % 16 : Nat) : Int)) (z.set (k + q) (backS x ((v % 16 : Nat) : Int))))
    (hm : m = v % 16) (hu : (ua, uo, un) = rnumS bs ta true (min (m : Int) 10)) (ho : o5 = (((uo && decide (k + q < 64)) && decide (1 ≤ m)) && decide (m ≤ 10))) :
    R = if o5 = true then acS bs fa n (k + q + 1) ua (z.set (k + q) un) else none := by
  rw [← hm] at hR
  by_cases h64 : 64 ≤ k + q
  · rw [if_pos h64] at hR
    have : decide (k + q < 64) = false := decide_eq_false (by omega)
    rw [hR, ho, this]; simp
  · rw [if_neg h64] at hR
    by_cases hm0 : m = 0 ∨ 10 < m
    · rw [if_pos hm0] at hR
      rw [hR, ho, if_neg]
      simp; omega
    · rw [if_neg hm0] at hR
      have hmin : min (m : Int) 10 = (m : Int) := by omega
      rw [hmin] at hu
      unfold rnumS rtakeS at hu
      have e1 : decide (k + q < 64) = true := decide_eq_true (by omega)
      have e2 : decide (1 ≤ m) = true := decide_eq_true (by omega)
      have e3 : decide (m ≤ 10) = true := decide_eq_true (by omega)
      rw [e1, e2, e3, Bool.and_true, Bool.and_true, Bool.and_true] at ho
      subst ho
      cases hp : peekR bs ta (m : Int) with
      | none =>
        simp only [hp] at hR hu
        injection hu with h1 h2
        injection h2 with h2 h3
        rw [hR, h2, if_neg (by simp)]
      | some x =>
        simp only [hp, if_true] at hR hu
        injection hu with h1 h2
        injection h2 with h2 h3
        rw [hR, h1, h2, h3, if_pos rfl]
theorem nat_ge64 {k q : Nat} (h : ¬ k + q < 64) : 64 ≤ (k : Int) + (q : Int) := by omega
theorem nat_ge64b {k q : Nat} (h : 64 ≤ (k : Int) + (q : Int)) : ¬ ((k : Int) + (q : Int) < 64) := by omega
theorem bool_a {k q m : Nat} (h : (k : Int) + (q : Int) < 64) (h1 : 1 ≤ (m : Int)) : decide ((m : Int) ≤ 10) = (((true && decide (k + q < 64)) && decide (1 ≤ m)) && decide (m ≤ 10)) := by
  rw [Bool.eq_iff_iff]; simp; omega
theorem bool_b {k q m : Nat} (h1 : (m : Int) < 1) : false = (((true && decide (k + q < 64)) && decide (1 ≤ m)) && decide (m ≤ 10)) := by
  have : decide (1 ≤ m) = false := decide_eq_false (by omega)
  simp [this]
theorem bool_c {k q m : Nat} (h : 64 ≤ (k : Int) + (q : Int)) : false = (((true && decide (k + q < 64)) && decide (1 ≤ m)) && decide (m ≤ 10)) := by
  have : decide (k + q < 64) = false := decide_eq_false (by omega)
  simp [this]
theorem set3 {w : World} {g : Nat} {t : TypeId} {x y z a b c : Value} (h : Blk w g t #[x, y, z]) : Blk (((w.setCell ⟨g, 0, none⟩ a).setCell ⟨g, 1, none⟩ b).setCell ⟨g, 2, none⟩ c) g t #[a, b, c] := ((h.set_ 0 a).set_ 1 b).set_ 2 c
theorem set3_grown (w : World) (g : Nat) (a b c : Value) : w.grownBy (((w.setCell ⟨g, 0, none⟩ a).setCell ⟨g, 1, none⟩ b).setCell ⟨g, 2, none⟩ c) (some g) :=
  ((grownBy_set w g 0 a).trans (grownBy_set _ g 1 b)).trans (grownBy_set _ g 2 c)
set_option maxRecDepth 100000 in
set_option maxHeartbeats 60000000 in
theorem rread_main (A : Option Addr) (c len : Nat) (bs : List Int) (at_ last : Int) (W : World) (hl : len ≤ 140737488355328) (a0 : -9223372036854775808 ≤ at_) (a1 : at_ ≤ 9223372036854775807) (_l0 : -9223372036854775808 ≤ last) (_l1 : last ≤ 9223372036854775807)
    (dc ac cc z0 : Array Value) (fd fa : Nat → Nat × Nat) (R : Option (List Int × Int))
    (hsd : (Try.prog.info? 27).map (·.size) = some dc.size) (hsa : (Try.prog.info? 27).map (·.size) = some ac.size)
    (KD : Hid (∀ w, Below W.heap.size W w → Calls Try.prog 25 #[.agg dc] w fun e w' => e = .returned (.bool true) ∧ Below w.heap.size w w'))
    (KA : Hid (∀ w, Below W.heap.size W w → Calls Try.prog 25 #[.agg ac] w fun e w' => e = .returned (.bool true) ∧ Below w.heap.size w w'))
    (CD : Hid (∀ w, Below W.heap.size W w → Calls Try.prog 16 #[.agg dc] w fun e w' => e = .returned (.agg (codeC fd)) ∧ Below w.heap.size w w'))
    (CA : Hid (∀ w, Below W.heap.size W w → Calls Try.prog 16 #[.agg ac] w fun e w' => e = .returned (.agg cc) ∧ Below w.heap.size w w'))
    (KCD : Hid (∀ w, Below W.heap.size W w → Calls Try.prog 33 #[.agg #[.slice A len c, .int .i64 at_, .bool true], .agg (codeC fd)] w (RPost A len c w (rcodeS bs at_ true fd))))
    (KCA : Hid (∀ w a o, Below W.heap.size W w → -9223372036854775808 ≤ a → a ≤ 9223372036854775807 → Calls Try.prog 33 #[.agg #[.slice A len c, .int .i64 a, .bool o], .agg cc] w (RPost A len c w (rcodeS bs a o fa))))
    (KN : Hid (∀ w a o n, Below W.heap.size W w → -9223372036854775808 ≤ a → a ≤ 9223372036854775807 → -9223372036854775808 ≤ n → n ≤ 9223372036854775807 → Calls Try.prog 34 #[.agg #[.slice A len c, .int .i64 a, .bool o], .int .i64 n] w (RPost A len c w (rnumS bs a o n))))
    (HR : Hid (R = readS bs at_ last fd fa)) (HLEN : Hid (bs.length = len)) (hys : (Try.prog.info? 43).map (·.size) = some cc.size) (hca : cc.all (·.oneCell') = true)
    (hz : ∀ w, (zeroValue 33).run Try.prog w = .ok (.agg z0) w) (hz43 : ∀ w, (zeroValue 43).run Try.prog w = .ok (.agg (codeC fun _ => (0, 0))) w)
    (hz33 : (Try.prog.info? 33).map (·.size) = some z0.size) (hone : z0.all (·.oneCell') = true) (HZ0 : Hid (z0 = intsC (List.replicate 64 0)))
    (HBL : Hid (∀ (a : Act) (w : World) (s : Nat) (ps : String), (execOp a.eval { dst := some s, op := Op.build 33 #[], type := 33, pos := ps, after := #[], guard := none }).run Try.prog w = .ok (.value (.agg z0)) w))
    (hst : Fst W dc ac z0 (((W.alloc (.cells dc 27)).alloc (.cells ac 27)).alloc (.cells z0 33))) (_hneg : 0 ≤ at_) (hneg' : decide (at_ < 0) = false) :
    Calls Try.prog 22 #[.slice A len c, .int .i64 at_, .int .i64 last, .agg dc, .agg ac] W (BPost W R) := by
  have hd0 := hst.d
  go_enter Try.func22, Try.ntmps22
  go_wp2_with (refine wpList_load_blk_want rfl 27 (.tmp 8) rfl W.heap.size rfl 27 _ _ hd0 Try.underlying27 rfl hsd ?_)
  refine (KD.out _ hst.b).mono ?_
  rintro e w1 ⟨rfl, hb1⟩
  have hst1 := hst.below hb1
  have ha1 := hst1.a
  clear hb1 hst hd0
  go_wp2_with (refine wpList_load_blk_want rfl 27 (.tmp 9) rfl (W.heap.size + 1) rfl 27 _ _ ha1 Try.underlying27 rfl hsa ?_)
  refine (KA.out _ hst1.b).mono ?_
  rintro e w2 ⟨rfl, hb2⟩
  have hst2 := hst1.below hb2
  have ha2 := hst2.a
  clear hb2 hst1 ha1
  go_wp2_with (refine wpList_load_blk rfl 27 (.tmp 9) rfl (W.heap.size + 1) rfl 27 _ _ ha2 Try.underlying27 rfl hsa ?_)
  refine (CA.out _ hst2.b).mono ?_
  rintro e w3 ⟨rfl, hb3⟩
  have hst3 := hst2.below hb3
  clear hb3 hst2 ha2
  have hcs : (codeC fun _ => (0, 0)).size = cc.size := Option.some.inj ((size43 _).symm.trans hys)
  have HCS := Lib.hid hcs
  clear hcs
  go_wp2_with (refine wpList_store_blk rfl 43 (.tmp 13) (.tmp 39) rfl w3.heap.size rfl 43 _ cc rfl (Blk.new w3 43 _) hys HCS.out hca ?_; intro w4 hc4 hg4 hs4; clear hs4)
  have hb4 : Below w3.heap.size w3 w4 := ((Below.refl _ _).alloc (Nat.le_refl _) _).grown hg4 (by simp) (fun k e => by cases e; exact Nat.le_refl _)
  have hst4 := hst3.below hb4
  obtain ⟨gc, hgc⟩ : ∃ gc, gc = w3.heap.size := ⟨_, rfl⟩
  rw [← hgc] at hc4 ⊢
  have hgc4 := hc4.lt
  have hgcW : W.heap.size + 1 + 1 < gc := by rw [hgc]; exact hst3.z.lt
  clear hb4 hst3 hg4 hgc
  have hc5 := hc4.alloc (.cells #[.slice A len c, .int .i64 at_, .bool true] 70)
  have hr5 := Blk.new w4 70 #[.slice A len c, .int .i64 at_, .bool true]
  have hst5 : Fst W dc ac z0 (w4.alloc (.cells #[.slice A len c, .int .i64 at_, .bool true] 70)) := hst4.below ((Below.refl _ _).alloc (Nat.le_refl _) _)
  obtain ⟨w5, hw5⟩ : ∃ w5, w4.alloc (.cells #[.slice A len c, .int .i64 at_, .bool true] 70) = w5 := ⟨_, rfl⟩
  obtain ⟨gr, hgr⟩ : ∃ gr, gr = w4.heap.size := ⟨_, rfl⟩
  rw [hw5] at hc5 hr5 hst5 ⊢
  rw [← hgr] at hr5 hgc4 ⊢
  clear hw5 hgr hst4 hc4
  have q0 := rcodeS_bd bs at_ true fd (8 * len) (by rw [HLEN.out]; omega) a0 a1 (by omega)
  obtain ⟨q, hq⟩ : ∃ q, q = rcodeS bs at_ true fd := ⟨_, rfl⟩
  rw [← hq] at q0
  have KCD2 : Hid (∀ w, Below W.heap.size W w → Calls Try.prog 33 #[.agg #[.slice A len c, .int .i64 at_, .bool true], .agg (codeC fd)] w (RPost A len c w q)) := Lib.hid (by rw [hq]; exact KCD.out)
  have HQ := Lib.hid hq
  clear hq KCD
  have hz70 : ∀ w, (zeroValue 70).run Try.prog w = .ok (.agg #[.slice none 0 0, .int .i64 0, .bool false]) w := fun w => by kernel_rfl
  go_cut [15, 16] from 43 (fun s15 s16 wx => ∃ g15 : Nat, s15 = .pointer (some ⟨g15, 0, none⟩) ∧ s16 = .int .i64 q.2.2 ∧ Fst W dc ac z0 wx ∧ Blk wx gc 43 cc ∧ gc < g15 ∧ Blk wx g15 70 #[.slice A len c, .int .i64 q.1, .bool q.2.1])
  case first =>
    refine wp_region_held (S := fun w => Fst W dc ac z0 w ∧ Blk w gr 70 #[.slice A len c, .int .i64 at_, .bool true]) (by kernel_rfl) ?_
    have hst6 : Fst W dc ac z0 w5.drew := ⟨hst5.d.drew, hst5.a.drew, hst5.z.drew, hst5.b.drew⟩
    have hc6 : Blk w5.drew gc 43 cc := hc5.drew
    have hr6 : Blk w5.drew gr 70 #[.slice A len c, .int .i64 at_, .bool true] := hr5.drew
    show wpAnyH _ _ _ _ _ _ _ _ w5.drew
    have hS6 : Fst W dc ac z0 w5.drew ∧ Blk w5.drew gr 70 #[.slice A len c, .int .i64 at_, .bool true] := ⟨hst6, hr6⟩
    generalize w5.drew = w6 at *
    refine wpAnyH_take (i := 0) (oi := ⟨some 44, _, _, _, _, _⟩) (v := .agg #[.slice A len c, .int .i64 at_, .bool true]) rfl (by kernel_rfl) (by kernel_rfl) (by kernel_rfl) (fun c a w h => h) (yieldsIf_load_blk (by rfl) 70 (.tmp 14) rfl gr rfl 70 _ _ (fun w h => h.2) Try.underlying70 rfl (by kernel_rfl)) hS6 ?_
    simp only [Act.put, List.setIfInBounds_toArray, List.set_cons_zero, List.set_cons_succ]
    refine wpAnyH_take (i := 1) (oi := ⟨some 45, _, _, _, _, _⟩) (v := .agg dc) rfl (by kernel_rfl) (by kernel_rfl) (by kernel_rfl) (fun c a w h => h) (yieldsIf_load_blk (by rfl) 27 (.tmp 8) rfl W.heap.size rfl 27 dc _ (fun w h => h.1.d) Try.underlying27 rfl hsd) hS6 ?_
    simp only [Act.put, List.setIfInBounds_toArray, List.set_cons_zero, List.set_cons_succ]
    refine wpAnyH_ready (rs := [2, 7]) (by kernel_rfl) (by simp) ?_
    refine AllReadyH.cons rfl (fun K' hK' => ?_) (AllReadyH.cons rfl (fun K' hK' => ?_) AllReadyH.nil)
    · skip
      go_simp
      refine (CD.out _ hst6.b).mono ?_
      rintro e w7 ⟨rfl, hb7⟩
      have hst7 := hst6.below hb7
      have hc7 := hc6.below hb7 hc6.lt
      have hr7 := hr6.below hb7 hr6.lt
      refine hK'.out _ _ ⟨hst7, hr7⟩ (fun hS7 => ?_)
      clear hK' K'
      refine wpAnyH_ready (rs := [3,7]) (by kernel_rfl) (by simp) ?_
      refine AllReadyH.cons rfl (fun K' hK' => ?_) (AllReadyH.cons rfl (fun K' hK' => ?_) AllReadyH.nil)
      · skip
        go_simp
        refine (KCD2.out _ hst7.b).mono ?_
        rintro e w8 ⟨rfl, hb8⟩
        have hst8 := hst7.below hb8
        have hc8 := hc7.below hb8 hc7.lt
        have hr8 := hr7.below hb8 hr7.lt
        refine hK'.out _ _ ⟨hst8, hr8⟩ (fun hS8 => ?_)
        clear hK' K'
        unfold rV
        refine wpAnyH_take (i := 4) (oi := ⟨some 43, _, _, _, _, _⟩) (v := .tuple #[.agg #[.slice A len c, .int .i64 q.1, .bool q.2.1], .int .i64 q.2.2]) rfl (by kernel_rfl) (by kernel_rfl) (by kernel_rfl) (fun c a w h => h) (Or.inl ⟨by rfl, fun w _ => rfl⟩) hS8 ?_
        simp only [Act.put, List.setIfInBounds_toArray, List.set_cons_zero, List.set_cons_succ]
        refine wpAnyH_take (i := 5) (oi := ⟨some 48, _, _, _, _, _⟩) (v := .agg #[.slice A len c, .int .i64 q.1, .bool q.2.1]) rfl (by kernel_rfl) (by kernel_rfl) (by kernel_rfl) (fun c a w h => h) (Or.inl ⟨by rfl, fun w _ => rfl⟩) hS8 ?_
        simp only [Act.put, List.setIfInBounds_toArray, List.set_cons_zero, List.set_cons_succ]
        refine wpAnyH_take (i := 6) (oi := ⟨some 49, _, _, _, _, _⟩) (v := .int .i64 q.2.2) rfl (by kernel_rfl) (by kernel_rfl) (by kernel_rfl) (fun c a w h => h) (Or.inl ⟨by rfl, fun w _ => rfl⟩) hS8 ?_
        simp only [Act.put, List.setIfInBounds_toArray, List.set_cons_zero, List.set_cons_succ]
        refine wpAnyH_ready (rs := [7]) (by kernel_rfl) (by simp) ?_
        refine AllReadyH.cons rfl (fun K' hK' => ?_) AllReadyH.nil
        go_simp
        have hst9 := hst8.below ((Below.refl _ _).alloc (Nat.le_refl _) (.cells #[.slice none 0 0, .int .i64 0, .bool false] 70))
        have hc9 := hc8.alloc (.cells #[.slice none 0 0, .int .i64 0, .bool false] 70)
        have hr9 := hr8.alloc (.cells #[.slice none 0 0, .int .i64 0, .bool false] 70)
        have hg9 := Blk.new w8 70 #[.slice none 0 0, .int .i64 0, .bool false]
        have hlt := hc8.lt
        have hlr := hr8.lt
        obtain ⟨g15, hg15⟩ : ∃ g15, g15 = w8.heap.size := ⟨_, rfl⟩
        obtain ⟨w9, hw9⟩ : ∃ w9, w8.alloc (.cells #[.slice none 0 0, .int .i64 0, .bool false] 70) = w9 := ⟨_, rfl⟩
        rw [hw9] at hst9 hc9 hr9 hg9 ⊢
        rw [← hg15] at hg9 hlt hlr ⊢
        clear hg15 hw9
        refine hK'.out _ _ ⟨hst9, hr9⟩ (fun hS9 => ?_)
        clear hK' K'
        refine wpAnyH_ready (rs := [8]) (by kernel_rfl) (by simp) ?_
        refine AllReadyH.cons rfl (fun K' hK' => ?_) AllReadyH.nil
        have d0 := hg9.cell 0
        have d1 := hg9.cell 1
        have d2 := hg9.cell 2
        have f0 := hg9.frozen 0
        have f1 := hg9.frozen 1
        have f2 := hg9.frozen 2
        simp at d0 d1 d2
        have hG := set3 (a := .slice A len c) (b := .int .i64 q.1) (c := .bool q.2.1) hg9
        have hgr := set3_grown w9 g15 (.slice A len c) (.int .i64 q.1) (.bool q.2.1)
        have hstG := hst9.grownG hgr (by omega)
        have hcG := hc9.grown hgr (fun e => by injection e with e; omega)
        have hrG := hr9.grown hgr (fun e => by injection e with e; omega)
        go_simp
        refine hK'.out _ _ ⟨hstG, hrG⟩ (fun hSG => ?_)
        clear hK' K'
        refine wpAnyH_ready (rs := [9]) (by kernel_rfl) (by simp) ?_
        refine AllReadyH.cons rfl (fun K' hK' => ?_) AllReadyH.nil
        go_simp
        refine hK'.out _ _ ⟨hstG, hrG⟩ (fun hSG => ?_)
        clear hK' K'
        refine wpAnyH_done (by kernel_rfl) ?_ _
        go_wp2_with fail
        go_meet
        case rel => exact ⟨g15, rfl, rfl, hstG, hcG, by omega, hG⟩
      · skip
        go_simp
        have hst8 := hst7.below ((Below.refl _ _).alloc (Nat.le_refl _) (.cells #[.slice none 0 0, .int .i64 0, .bool false] 70))
        have hc8 := hc7.alloc (.cells #[.slice none 0 0, .int .i64 0, .bool false] 70)
        have hr8 := hr7.alloc (.cells #[.slice none 0 0, .int .i64 0, .bool false] 70)
        have hg8 := Blk.new w7 70 #[.slice none 0 0, .int .i64 0, .bool false]
        have hlt := hc7.lt
        have hlr := hr7.lt
        obtain ⟨g15, hg15⟩ : ∃ g15, g15 = w7.heap.size := ⟨_, rfl⟩
        obtain ⟨w8, hw8⟩ : ∃ w8, w7.alloc (.cells #[.slice none 0 0, .int .i64 0, .bool false] 70) = w8 := ⟨_, rfl⟩
        rw [hw8] at hst8 hc8 hr8 hg8 ⊢
        rw [← hg15] at hg8 hlt hlr ⊢
        clear hg15 hw8
        refine hK'.out _ _ ⟨hst8, hr8⟩ (fun hS8 => ?_)
        clear hK' K'
        refine wpAnyH_ready (rs := [3]) (by kernel_rfl) (by simp) ?_
        refine AllReadyH.cons rfl (fun K' hK' => ?_) AllReadyH.nil
        go_simp
        refine (KCD2.out _ hst8.b).mono ?_
        rintro e w9 ⟨rfl, hb9⟩
        have hst9 := hst8.below hb9
        have hc9 := hc8.below hb9 hc8.lt
        have hr9 := hr8.below hb9 hr8.lt
        have hg9 := hg8.below hb9 hg8.lt
        refine hK'.out _ _ ⟨hst9, hr9⟩ (fun hS9 => ?_)
        clear hK' K'
        unfold rV
        refine wpAnyH_take (i := 4) (oi := ⟨some 43, _, _, _, _, _⟩) (v := .tuple #[.agg #[.slice A len c, .int .i64 q.1, .bool q.2.1], .int .i64 q.2.2]) rfl (by kernel_rfl) (by kernel_rfl) (by kernel_rfl) (fun c a w h => h) (Or.inl ⟨by rfl, fun w _ => rfl⟩) hS9 ?_
        simp only [Act.put, List.setIfInBounds_toArray, List.set_cons_zero, List.set_cons_succ]
        refine wpAnyH_take (i := 5) (oi := ⟨some 48, _, _, _, _, _⟩) (v := .agg #[.slice A len c, .int .i64 q.1, .bool q.2.1]) rfl (by kernel_rfl) (by kernel_rfl) (by kernel_rfl) (fun c a w h => h) (Or.inl ⟨by rfl, fun w _ => rfl⟩) hS9 ?_
        simp only [Act.put, List.setIfInBounds_toArray, List.set_cons_zero, List.set_cons_succ]
        refine wpAnyH_take (i := 6) (oi := ⟨some 49, _, _, _, _, _⟩) (v := .int .i64 q.2.2) rfl (by kernel_rfl) (by kernel_rfl) (by kernel_rfl) (fun c a w h => h) (Or.inl ⟨by rfl, fun w _ => rfl⟩) hS9 ?_
        simp only [Act.put, List.setIfInBounds_toArray, List.set_cons_zero, List.set_cons_succ]
        refine wpAnyH_ready (rs := [8]) (by kernel_rfl) (by simp) ?_
        refine AllReadyH.cons rfl (fun K' hK' => ?_) AllReadyH.nil
        have d0 := hg9.cell 0
        have d1 := hg9.cell 1
        have d2 := hg9.cell 2
        have f0 := hg9.frozen 0
        have f1 := hg9.frozen 1
        have f2 := hg9.frozen 2
        simp at d0 d1 d2
        have hG := set3 (a := .slice A len c) (b := .int .i64 q.1) (c := .bool q.2.1) hg9
        have hgr := set3_grown w9 g15 (.slice A len c) (.int .i64 q.1) (.bool q.2.1)
        have hstG := hst9.grownG hgr (by omega)
        have hcG := hc9.grown hgr (fun e => by injection e with e; omega)
        have hrG := hr9.grown hgr (fun e => by injection e with e; omega)
        go_simp
        refine hK'.out _ _ ⟨hstG, hrG⟩ (fun hSG => ?_)
        clear hK' K'
        refine wpAnyH_ready (rs := [9]) (by kernel_rfl) (by simp) ?_
        refine AllReadyH.cons rfl (fun K' hK' => ?_) AllReadyH.nil
        go_simp
        refine hK'.out _ _ ⟨hstG, hrG⟩ (fun hSG => ?_)
        clear hK' K'
        refine wpAnyH_done (by kernel_rfl) ?_ _
        go_wp2_with fail
        go_meet
        case rel => exact ⟨g15, rfl, rfl, hstG, hcG, by omega, hG⟩
    · skip
      go_simp
      have hst7 := hst6.below ((Below.refl _ _).alloc (Nat.le_refl _) (.cells #[.slice none 0 0, .int .i64 0, .bool false] 70))
      have hc7 := hc6.alloc (.cells #[.slice none 0 0, .int .i64 0, .bool false] 70)
      have hr7 := hr6.alloc (.cells #[.slice none 0 0, .int .i64 0, .bool false] 70)
      have hg7 := Blk.new w6 70 #[.slice none 0 0, .int .i64 0, .bool false]
      have hlt := hc6.lt
      have hlr := hr6.lt
      obtain ⟨g15, hg15⟩ : ∃ g15, g15 = w6.heap.size := ⟨_, rfl⟩
      obtain ⟨w7, hw7⟩ : ∃ w7, w6.alloc (.cells #[.slice none 0 0, .int .i64 0, .bool false] 70) = w7 := ⟨_, rfl⟩
      rw [hw7] at hst7 hc7 hr7 hg7 ⊢
      rw [← hg15] at hg7 hlt hlr ⊢
      clear hg15 hw7
      refine hK'.out _ _ ⟨hst7, hr7⟩ (fun hS7 => ?_)
      clear hK' K'
      refine wpAnyH_ready (rs := [2]) (by kernel_rfl) (by simp) ?_
      refine AllReadyH.cons rfl (fun K' hK' => ?_) AllReadyH.nil
      go_simp
      refine (CD.out _ hst7.b).mono ?_
      rintro e w8 ⟨rfl, hb8⟩
      have hst8 := hst7.below hb8
      have hc8 := hc7.below hb8 hc7.lt
      have hr8 := hr7.below hb8 hr7.lt
      have hg8 := hg7.below hb8 hg7.lt
      refine hK'.out _ _ ⟨hst8, hr8⟩ (fun hS8 => ?_)
      clear hK' K'
      refine wpAnyH_ready (rs := [3]) (by kernel_rfl) (by simp) ?_
      refine AllReadyH.cons rfl (fun K' hK' => ?_) AllReadyH.nil
      go_simp
      refine (KCD2.out _ hst8.b).mono ?_
      rintro e w9 ⟨rfl, hb9⟩
      have hst9 := hst8.below hb9
      have hc9 := hc8.below hb9 hc8.lt
      have hr9 := hr8.below hb9 hr8.lt
      have hg9 := hg8.below hb9 hg8.lt
      refine hK'.out _ _ ⟨hst9, hr9⟩ (fun hS9 => ?_)
      clear hK' K'
      unfold rV
      refine wpAnyH_take (i := 4) (oi := ⟨some 43, _, _, _, _, _⟩) (v := .tuple #[.agg #[.slice A len c, .int .i64 q.1, .bool q.2.1], .int .i64 q.2.2]) rfl (by kernel_rfl) (by kernel_rfl) (by kernel_rfl) (fun c a w h => h) (Or.inl ⟨by rfl, fun w _ => rfl⟩) hS9 ?_
      simp only [Act.put, List.setIfInBounds_toArray, List.set_cons_zero, List.set_cons_succ]
      refine wpAnyH_take (i := 5) (oi := ⟨some 48, _, _, _, _, _⟩) (v := .agg #[.slice A len c, .int .i64 q.1, .bool q.2.1]) rfl (by kernel_rfl) (by kernel_rfl) (by kernel_rfl) (fun c a w h => h) (Or.inl ⟨by rfl, fun w _ => rfl⟩) hS9 ?_
      simp only [Act.put, List.setIfInBounds_toArray, List.set_cons_zero, List.set_cons_succ]
      refine wpAnyH_take (i := 6) (oi := ⟨some 49, _, _, _, _, _⟩) (v := .int .i64 q.2.2) rfl (by kernel_rfl) (by kernel_rfl) (by kernel_rfl) (fun c a w h => h) (Or.inl ⟨by rfl, fun w _ => rfl⟩) hS9 ?_
      simp only [Act.put, List.setIfInBounds_toArray, List.set_cons_zero, List.set_cons_succ]
      refine wpAnyH_ready (rs := [8]) (by kernel_rfl) (by simp) ?_
      refine AllReadyH.cons rfl (fun K' hK' => ?_) AllReadyH.nil
      have d0 := hg9.cell 0
      have d1 := hg9.cell 1
      have d2 := hg9.cell 2
      have f0 := hg9.frozen 0
      have f1 := hg9.frozen 1
      have f2 := hg9.frozen 2
      simp at d0 d1 d2
      have hG := set3 (a := .slice A len c) (b := .int .i64 q.1) (c := .bool q.2.1) hg9
      have hgr := set3_grown w9 g15 (.slice A len c) (.int .i64 q.1) (.bool q.2.1)
      have hstG := hst9.grownG hgr (by omega)
      have hcG := hc9.grown hgr (fun e => by injection e with e; omega)
      have hrG := hr9.grown hgr (fun e => by injection e with e; omega)
      go_simp
      refine hK'.out _ _ ⟨hstG, hrG⟩ (fun hSG => ?_)
      clear hK' K'
      refine wpAnyH_ready (rs := [9]) (by kernel_rfl) (by simp) ?_
      refine AllReadyH.cons rfl (fun K' hK' => ?_) AllReadyH.nil
      go_simp
      refine hK'.out _ _ ⟨hstG, hrG⟩ (fun hSG => ?_)
      clear hK' K'
      refine wpAnyH_done (by kernel_rfl) ?_ _
      go_wp2_with fail
      go_meet
      case rel => exact ⟨g15, rfl, rfl, hstG, hcG, by omega, hG⟩
  case rest =>
    obtain ⟨g15, rfl, rfl, hst, hc, hlt, hg⟩ := hcut
    obtain ⟨qa, qo, qz⟩ := q
    simp only at q0 hg
    obtain ⟨q1, q2, q3, q4⟩ := q0
    clear CD CA KD KA KCD2 hst5 hc5 hr5 hgc4
    go_upto_region 6 with fail
    go_cut [] from 43 (fun wx => Fst W dc ac z0 wx ∧ Blk wx gc 43 cc ∧ Blk wx g15 70 #[.slice A len c, .int .i64 qa, .bool (qo && decide (qz ≤ 11))])
    case first =>
      have d2 := hg.cell 2
      have f2 := hg.frozen 2
      simp at d2
      have hG : ∀ b : Bool, Blk (wc.setCell ⟨g15, 2, none⟩ (.bool b)) g15 70 #[.slice A len c, .int .i64 qa, .bool b] := fun b => hg.set_ 2 _
      have hgr : ∀ b : Bool, wc.grownBy (wc.setCell ⟨g15, 2, none⟩ (.bool b)) (some g15) := fun b => grownBy_set _ _ _ _
      have HG := Lib.hid hG
      have HGR := Lib.hid hgr
      clear hG hgr
      cases qo
      · go_wp2_with fail
        go_meet
        case rel => exact ⟨hst.grownG (HGR.out _) (by omega), hc.grown (HGR.out _) (fun e => by injection e with e; omega), HG.out _⟩
      · go_wp2_with fail
        go_meet
        case rel => exact ⟨hst.grownG (HGR.out _) (by omega), hc.grown (HGR.out _) (fun e => by injection e with e; omega), by simpa using HG.out (decide (qz ≤ 11))⟩
    case rest =>
      rename_i wc1
      clear hst hc hg
      obtain ⟨hst, hc, hg⟩ := hcut
      have hok : ∃ okq, okq = (qo && decide (qz ≤ 11)) := ⟨_, rfl⟩
      obtain ⟨okq, hok⟩ := hok
      rw [← hok] at hg
      have d0 := hg.cell 0
      have d1 := hg.cell 1
      have d2 := hg.cell 2
      simp at d0 d1 d2
      have hmn : 0 ≤ min qz 11 ∧ min qz 11 ≤ 31 := by omega
      have r0 := rnumS_bd bs qa okq (min qz 11) (8 * len) (by rw [HLEN.out]; omega) q1 q2 (by omega) hmn.1 hmn.2
      have h34 := fun w hw => KN.out w qa okq (min qz 11) hw q1 q2 (by omega) (by omega)
      obtain ⟨r, hr⟩ : ∃ r, r = rnumS bs qa okq (min qz 11) := ⟨_, rfl⟩
      rw [← hr] at h34 r0
      have H34 := Lib.hid h34
      have HOK := Lib.hid hok
      have HRN := Lib.hid hr
      clear h34 hok hr hmn
      obtain ⟨ra, ro, rd⟩ := r
      simp only at r0
      obtain ⟨r1, r2, r3, r4⟩ := r0
      go_wp2_with fail
      refine (H34.out _ hst.b).mono ?_
      rintro e w1 ⟨rfl, hb1⟩
      have hst1 := hst.below hb1
      have hc1 := hc.below hb1 hc.lt
      clear hb1 hst hc hg d0 d1 d2
      unfold rV
      go_upto_region 8 with fail
      have hg2 := Blk.new w1 70 #[.slice A len c, .int .i64 ra, .bool ro]
      have hst2 := hst1.below ((Below.refl _ _).alloc (Nat.le_refl _) (.cells #[.slice A len c, .int .i64 ra, .bool ro] 70))
      have hc2 := hc1.alloc (.cells #[.slice A len c, .int .i64 ra, .bool ro] 70)
      have hc17 := hc1.lt
      obtain ⟨g17, hg17⟩ : ∃ g17, g17 = w1.heap.size := ⟨_, rfl⟩
      obtain ⟨w2, hw2⟩ : ∃ w2, w1.alloc (.cells #[.slice A len c, .int .i64 ra, .bool ro] 70) = w2 := ⟨_, rfl⟩
      rw [hw2] at hg2 hst2 hc2 ⊢
      rw [← hg17] at hg2 hc17 ⊢
      have hW17 : W.heap.size + 1 + 1 < g17 := by omega
      clear hw2 hg17 hst1 hc1
      obtain ⟨d, hd⟩ : ∃ d, d = wrap64 (rd + last) := ⟨_, rfl⟩
      have hd2 : wrap64 (rd + last) = d := hd.symm
      have HD := Lib.hid hd
      clear hd
      have hz64 : z0.size = 64 := by rw [HZ0.out, intsC_size]; simp
      have HZ64 := Lib.hid hz64
      clear hz64
      go_upto_region 10 with (first | (refine wpList_ran (o := ⟨some 64, _, _, _, _, _⟩) rfl _ (HBL.out _ _ _ _) ?_) | (refine wpList_store_blk rfl 33 (.tmp 19) (.tmp 64) rfl w2.heap.size rfl 33 _ z0 rfl (Blk.new w2 33 _) hz33 rfl hone ?_; intro w3 hz3 hg3 hs3; clear hs3; have hzc : w3.cell? ⟨w2.heap.size, 0, none⟩ = some (.int .i64 0) := (by rw [hz3.cell, HZ0.out]; rfl); have hzf := hz3.frozen 0))
      have hb3 : Below w2.heap.size w2 w3 := ((Below.refl _ _).alloc (Nat.le_refl _) _).grown hg3 (by simp) (fun k e => by cases e; exact Nat.le_refl _)
      have hst3 := (hst2.below hb3)
      have hc3 := hc2.below hb3 hc2.lt
      have hr3 := hg2.below hb3 hg2.lt
      have hlt17 := hg2.lt
      have hltc := hc2.lt
      obtain ⟨g19, hg19⟩ : ∃ g19, g19 = w2.heap.size := ⟨_, rfl⟩
      rw [← hg19] at hz3 hlt17 hltc ⊢
      clear hb3 hg3 hst2 hc2 hg2 hg19 hzc hzf
      have hgz := grownBy_set w3 g19 0 (.int .i64 d)
      have hst4 := hst3.grownG hgz (by omega)
      have hc4 := hc3.grown hgz (fun e => by injection e with e; omega)
      have hr4 := hr3.grown hgz (fun e => by injection e with e; omega)
      have hz4 : Blk (w3.setCell ⟨g19, 0, none⟩ (.int .i64 d)) g19 33 (intsC ((List.replicate 64 0).set 0 d)) := by rw [← intsC_set, ← HZ0.out]; exact hz3.set_ 0 _
      obtain ⟨w4, hw4⟩ : ∃ w4, w3.setCell ⟨g19, 0, none⟩ (.int .i64 d) = w4 := ⟨_, rfl⟩
      rw [hw4] at hst4 hc4 hr4 hz4 ⊢
      clear hw4 hgz hst3 hc3 hr3 hz3
      obtain ⟨zl, hzl⟩ : ∃ zl, zl = (List.replicate 64 (0 : Int)).set 0 d := ⟨_, rfl⟩
      rw [← hzl] at hz4
      have HZL := Lib.hid hzl
      clear hzl
      have e2 := hr4.cell 2
      have f2 := hr4.frozen 2
      have z0c : w4.cell? ⟨g19, 0, none⟩ = some (.int .i64 d) := by rw [hz4.cell, HZL.out]; rfl
      simp at e2
      have hG : ∀ b : Bool, Blk (w4.setCell ⟨g17, 2, none⟩ (.bool b)) g17 70 #[.slice A len c, .int .i64 ra, .bool b] := fun b => hr4.set_ 2 _
      have hgr : ∀ b : Bool, w4.grownBy (w4.setCell ⟨g17, 2, none⟩ (.bool b)) (some g17) := fun b => grownBy_set _ _ _ _
      have HG := Lib.hid hG
      have HGR := Lib.hid hgr
      clear hG hgr
      go_cut [] from 43 (fun wx => Fst W dc ac z0 wx ∧ Blk wx gc 43 cc ∧ Blk wx g19 33 (intsC zl) ∧ Blk wx g17 70 #[.slice A len c, .int .i64 ra, .bool ((ro && decide (-1024 ≤ d)) && decide (d ≤ 1023))])
      case first =>
        have hall : ∀ b : Bool, b = ((ro && decide (-1024 ≤ d)) && decide (d ≤ 1023)) → Fst W dc ac z0 (w4.setCell ⟨g17, 2, none⟩ (.bool b)) ∧ Blk (w4.setCell ⟨g17, 2, none⟩ (.bool b)) gc 43 cc ∧ Blk (w4.setCell ⟨g17, 2, none⟩ (.bool b)) g19 33 (intsC zl) ∧ Blk (w4.setCell ⟨g17, 2, none⟩ (.bool b)) g17 70 #[.slice A len c, .int .i64 ra, .bool ((ro && decide (-1024 ≤ d)) && decide (d ≤ 1023))] := fun b hb =>
          ⟨hst4.grownG (HGR.out _) (by omega), hc4.grown (HGR.out _) (fun e => by injection e with e; omega), hz4.grown (HGR.out _) (fun e => by injection e with e; omega), by rw [← hb]; exact HG.out b⟩
        have HALL := Lib.hid hall
        clear hall hst4 hc4 hz4 hr4
        cases ro
        · go_wp2_with fail
          go_meet
          case rel => exact HALL.out _ (by simp)
        · by_cases hlo : -1024 ≤ d
          · go_wp2_with fail
            go_meet
            case rel => exact HALL.out _ (by simp [hlo])
          · have hlo' : d < -1024 := by omega
            clear hlo
            go_wp2_with fail
            go_meet
            case rel => exact HALL.out _ (by simp; omega)
      case rest =>
        clear hst4 hc4 hz4 hr4 e2 f2 z0c HG HGR
        obtain ⟨hst, hc, hz, hr⟩ := hcut
        have hdc : dcR bs at_ last fd = (ra, ((ro && decide (-1024 ≤ d)) && decide (d ≤ 1023)), d) := by
          unfold dcR
          rw [← HQ.out]
          simp only
          rw [← HOK.out, ← HRN.out, ← HD.out]
        have hR : R = if ((ro && decide (-1024 ≤ d)) && decide (d ≤ 1023)) = true then acS bs fa 64 1 ra zl else none := by
          rw [HR.out, readR_eq, hdc, HZL.out]
        obtain ⟨o3, ho3⟩ : ∃ o3, o3 = ((ro && decide (-1024 ≤ d)) && decide (d ≤ 1023)) := ⟨_, rfl⟩
        rw [← ho3] at hR hr
        have hz64 : zl.length = 64 := by rw [HZL.out]; simp
        have HRR := Lib.hid hR
        have HL := Lib.hid hz64
        clear hdc hR ho3 hz64 HD HZL HRN HOK HQ HR hd2 H34
        have ra1 : -9223372036854775808 ≤ ra ∧ ra ≤ 9223372036854775807 := ⟨r1, r2⟩
        clear r1 r2 r3 r4 q1 q2 q3 q4
        go_upto_block 0 with fail
        go_cut [] from 43 (fun wx => ∃ (a : Int) (o : Bool) (z : List Int), Fst W dc ac z0 wx ∧ Blk wx g19 33 (intsC z) ∧ Blk wx g17 70 #[.slice A len c, .int .i64 a, .bool o] ∧ z.length = 64 ∧ R = if o = true then some (z, a) else none)
        case first =>
          go_wp2_with fail
          go_loopg [20] 79 (fun gk kv (w : World) => ∃ (n k : Nat) (a : Int) (o : Bool) (z : List Int), kv = .int .i64 k ∧ gk + k = 80 ∧ 1 ≤ k ∧ 64 ≤ n + k ∧ z.length = 64 ∧ Fst W dc ac z0 w ∧ Blk w gc 43 cc ∧ Blk w g19 33 (intsC z) ∧ Blk w g17 70 #[.slice A len c, .int .i64 a, .bool o] ∧ -9223372036854775808 ≤ a ∧ a ≤ 9223372036854775807 ∧ R = if o = true then acS bs fa n k a z else none)
          case atStart => exact ⟨64, 1, ra, o3, zl, rfl, rfl, by omega, by omega, HL.out, hst, hc, hz, hr, ra1.1, ra1.2, HRR.out⟩
          case round =>
            obtain ⟨n, k, a, o, z, rfl, hgk, k0, hnk, hzl, hst, hc, hz, hr, b0, b1, hRn⟩ := hrel
            have HRn := Lib.hid hRn
            have HZl := Lib.hid hzl
            have HGK := Lib.hid hgk
            have k1 : k ≤ 80 := by omega
            have e0 := hr.cell 0
            have e1 := hr.cell 1
            have e2 := hr.cell 2
            simp at e0 e1 e2
            clear hRn hzl hgk
            by_cases hk : k < 64
            · cases o with
              | false =>
                have hR : R = none := by rw [HRn.out, if_neg (by simp)]
                have HR2 := Lib.hid hR
                clear hR
                go_wp2_with fail
                go_meet
                case rel => exact ⟨a, false, z, hst, hz, hr, HZl.out, by rw [HR2.out, if_neg (by simp)]⟩
              | true =>
                obtain ⟨n, rfl⟩ : ∃ m, n = m + 1 := ⟨n - 1, by omega⟩
                have hR := HRn.out
                rw [if_pos rfl, acS, if_pos hk] at hR
                have HR1 := Lib.hid hR
                clear hR
                have f0 := hr.frozen 0
                have f1 := hr.frozen 1
                have f2 := hr.frozen 2
                go_wp2_with (refine wpList_load_blk rfl 43 (.tmp 13) rfl gc rfl 43 _ _ hc Try.underlying43 rfl hys ?_)
                refine (KCA.out _ a true hst.b b0 b1).mono ?_
                rintro e w1 ⟨rfl, hb1⟩
                have hst1 := hst.below hb1
                have hc1 := hc.below hb1 hc.lt
                have hz1 := hz.below hb1 hz.lt
                have hr1 := hr.below hb1 hr.lt
                have t0 := rcodeS_bd bs a true fa (8 * len) (by rw [HLEN.out]; omega) b0 b1 (by omega)
                clear hb1 hst hc hz hr e0 e1 e2 f0 f1 f2
                unfold rV
                obtain ⟨t, ht⟩ : ∃ t, t = rcodeS bs a true fa := ⟨_, rfl⟩
                have HT := Lib.hid ht
                rw [← ht] at t0 ⊢
                clear ht
                obtain ⟨ta, to_, tv⟩ := t
                simp only at t0 ⊢
                obtain ⟨t1, t2, t3, t4⟩ := t0
                go_upto_region 14 with fail
                have hs2 := Blk.new w1 70 #[.slice A len c, .int .i64 ta, .bool to_]
                have hst2 := hst1.below ((Below.refl _ _).alloc (Nat.le_refl _) (.cells #[.slice A len c, .int .i64 ta, .bool to_] 70))
                have hc2 := hc1.alloc (.cells #[.slice A len c, .int .i64 ta, .bool to_] 70)
                have hz2 := hz1.alloc (.cells #[.slice A len c, .int .i64 ta, .bool to_] 70)
                have hr2 := hr1.alloc (.cells #[.slice A len c, .int .i64 ta, .bool to_] 70)
                obtain ⟨g21, hg21⟩ : ∃ g21, g21 = w1.heap.size := ⟨_, rfl⟩
                obtain ⟨w2, hw2⟩ : ∃ w2, w1.alloc (.cells #[.slice A len c, .int .i64 ta, .bool to_] 70) = w2 := ⟨_, rfl⟩
                rw [hw2] at hs2 hst2 hc2 hz2 hr2 ⊢
                rw [← hg21] at hs2 ⊢
                clear hw2 hg21 hst1 hc1 hz1 hr1
                have g0 := hr2.cell 0
                have g1 := hr2.cell 1
                have g2 := hr2.cell 2
                have f0 := hr2.frozen 0
                have f1 := hr2.frozen 1
                have f2 := hr2.frozen 2
                have s0 := hs2.cell 0
                have s1 := hs2.cell 1
                have s2 := hs2.cell 2
                simp at g0 g1 g2 s0 s1 s2
                have hgg := set3_grown w2 g17 (.slice A len c) (.int .i64 ta) (.bool to_)
                have hr3 := set3 (a := .slice A len c) (b := .int .i64 ta) (c := .bool to_) hr2
                have hst3 := hst2.grownG hgg (by omega)
                have hc3 := hc2.grown hgg (fun e => by injection e with e; omega)
                have hz3 := hz2.grown hgg (fun e => by injection e with e; omega)
                clear hst2 hc2 hz2 hr2 hs2 hgg
                go_upto_region 15 with fail
                obtain ⟨w3, hw3⟩ : ∃ w3, ((w2.setCell ⟨g17, 0, none⟩ (.slice A len c)).setCell ⟨g17, 1, none⟩ (.int .i64 ta)).setCell ⟨g17, 2, none⟩ (.bool to_) = w3 := ⟨_, rfl⟩
                rw [hw3] at hr3 hst3 hc3 hz3 ⊢
                clear hw3 g0 g1 g2 f0 f1 f2 s0 s1 s2 w2 w1
                cases hcs : codeS bs a fa with
                | none =>
                  have hT := HT.out
                  have hR := HR1.out
                  unfold rcodeS at hT
                  simp only [hcs] at hT hR
                  injection hT with hT1 hT2
                  injection hT2 with hT2 hT3
                  subst hT1 hT2 hT3
                  have HR2 := Lib.hid hR
                  clear hcs hR
                  go_wp2_with fail
                  go_meet
                  case rel => exact ⟨_, false, z, hst3, hz3, hr3, HZl.out, by rw [HR2.out, if_neg (by simp)]⟩
                | some v =>
                  have hT := HT.out
                  have hR := HR1.out
                  unfold rcodeS at hT
                  simp only [hcs] at hT hR
                  injection hT with hT1 hT2
                  injection hT2 with hT2 hT3
                  rw [← hT1] at hR
                  have HT1 := Lib.hid hT1
                  subst hT2 hT3
                  obtain ⟨v256, _, b2⟩ := codeS_at hcs
                  have HR2 := Lib.hid hR
                  clear hcs hR hT1
                  by_cases hv0 : v = 0
                  · have hvz : ((v : Int) == 0) = true := by simp; omega
                    have hR := HR2.out
                    rw [if_pos hv0] at hR
                    have HR3 := Lib.hid hR
                    clear hR
                    go_wp2_with fail
                    go_meet
                    case rel => exact ⟨ta, true, z, hst3, hz3, hr3, HZl.out, by rw [HR3.out, if_pos rfl]⟩
                  · have hvz : ((v : Int) == 0) = false := by simp; omega
                    obtain ⟨qq, hqq⟩ : ∃ qq, qq = v / 16 := ⟨_, rfl⟩
                    have hq2 : ((v : Int) / 16) = (qq : Int) := by omega
                    have hq16 : qq < 16 := by omega
                    have hR := HR2.out
                    rw [if_neg hv0, ← hqq] at hR
                    have HR3 := Lib.hid hR
                    have HQQ := Lib.hid hqq
                    clear hR hqq hv0
                    have g2 := hr3.cell 2
                    have f2 := hr3.frozen 2
                    simp at g2
                    have hG : ∀ b : Bool, Blk (w3.setCell ⟨g17, 2, none⟩ (.bool b)) g17 70 #[.slice A len c, .int .i64 ta, .bool b] := fun b => hr3.set_ 2 _
                    have hgr : ∀ b : Bool, w3.grownBy (w3.setCell ⟨g17, 2, none⟩ (.bool b)) (some g17) := fun b => grownBy_set _ _ _ _
                    have HG := Lib.hid hG
                    have HGR := Lib.hid hgr
                    clear hG hgr
                    by_cases h240 : v = 240
                    · have hvf : ((v : Int) == 240) = true := by simp; omega
                      have hR : R = if decide ((k : Int) + (qq : Int) + 1 < 64) = true then acS bs fa n (k + qq + 1) ta z else none := by
                        rw [HR3.out]
                        by_cases h64 : 64 ≤ k + qq
                        · rw [if_pos h64, if_neg (by simp; omega)]
                        · rw [if_neg h64, if_pos h240]
                          by_cases h65 : k + qq + 1 < 64
                          · rw [if_pos h65, if_pos (by simp; omega)]
                          · rw [if_neg h65, if_neg (by simp; omega)]
                      have HR4 := Lib.hid hR
                      clear hR h240
                      go_wp2_with fail
                      go_roundg (80 - (k + qq + 1))
                      case measure => have := HGK.out; omega
                      case rel => exact ⟨n, k + qq + 1, ta, _, z, by go_num, by omega, by omega, by omega, HZl.out, hst3.grownG (HGR.out _) (by omega), hc3.grown (HGR.out _) (fun e => by injection e with e; omega), hz3.grown (HGR.out _) (fun e => by injection e with e; omega), HG.out _, t1, t2, HR4.out⟩
                    · have hvf : ((v : Int) == 240) = false := by simp; omega
                      have hR := HR3.out
                      rw [if_neg h240] at hR
                      have HR4 := Lib.hid hR
                      clear hR h240
                      obtain ⟨m, hm⟩ : ∃ m, m = v % 16 := ⟨_, rfl⟩
                      have hm2 : ((v : Int) % 16) = (m : Int) := by omega
                      have hm16 : m < 16 := by omega
                      have HM := Lib.hid hm
                      clear hm
                      have hmn : 0 ≤ min (m : Int) 10 ∧ min (m : Int) 10 ≤ 31 := by omega
                      have u0 := rnumS_bd bs ta true (min (m : Int) 10) (8 * len) (by rw [HLEN.out]; omega) t1 t2 (by omega) hmn.1 hmn.2
                      have h34 := fun w hw => KN.out w ta true (min (m : Int) 10) hw t1 t2 (by omega) (by omega)
                      obtain ⟨u, hu⟩ : ∃ u, u = rnumS bs ta true (min (m : Int) 10) := ⟨_, rfl⟩
                      rw [← hu] at h34 u0
                      have H34 := Lib.hid h34
                      have HU := Lib.hid hu
                      clear h34 hu hmn
                      obtain ⟨ua, uo, un⟩ := u
                      simp only at u0
                      obtain ⟨u1, u2, u3, u4⟩ := u0
                      have g0 := hr3.cell 0
                      have g1 := hr3.cell 1
                      simp at g0 g1
                      go_wp2_with fail
                      refine (H34.out _ hst3.b).mono ?_
                      rintro e w4 ⟨rfl, hb4⟩
                      have hst4 := hst3.below hb4
                      have hc4 := hc3.below hb4 hc3.lt
                      have hz4 := hz3.below hb4 hz3.lt
                      have hr4 := hr3.below hb4 hr3.lt
                      clear hb4 hst3 hc3 hz3 hr3 g0 g1 g2 f2 HG HGR
                      unfold rV
                      go_upto_region 21 with fail
                      have hs5 := Blk.new w4 70 #[.slice A len c, .int .i64 ua, .bool uo]
                      have hst5 := hst4.below ((Below.refl _ _).alloc (Nat.le_refl _) (.cells #[.slice A len c, .int .i64 ua, .bool uo] 70))
                      have hc5 := hc4.alloc (.cells #[.slice A len c, .int .i64 ua, .bool uo] 70)
                      have hz5 := hz4.alloc (.cells #[.slice A len c, .int .i64 ua, .bool uo] 70)
                      have hr5 := hr4.alloc (.cells #[.slice A len c, .int .i64 ua, .bool uo] 70)
                      have hl17 := hr4.lt
                      have hl19 := hz4.lt
                      have hlc := hc4.lt
                      obtain ⟨g23, hg23⟩ : ∃ g23, g23 = w4.heap.size := ⟨_, rfl⟩
                      obtain ⟨w5, hw5⟩ : ∃ w5, w4.alloc (.cells #[.slice A len c, .int .i64 ua, .bool uo] 70) = w5 := ⟨_, rfl⟩
                      rw [hw5] at hs5 hst5 hc5 hz5 hr5 ⊢
                      rw [← hg23] at hs5 hl17 hl19 hlc ⊢
                      clear hw5 hg23 hst4 hc4 hz4 hr4
                      have s2 := hs5.cell 2
                      have f2 := hs5.frozen 2
                      simp at s2
                      have hall : ∀ b : Bool, b = (((uo && decide (k + qq < 64)) && decide (1 ≤ m)) && decide (m ≤ 10)) → Fst W dc ac z0 (w5.setCell ⟨g23, 2, none⟩ (.bool b)) ∧ Blk (w5.setCell ⟨g23, 2, none⟩ (.bool b)) gc 43 cc ∧ Blk (w5.setCell ⟨g23, 2, none⟩ (.bool b)) g19 33 (intsC z) ∧ Blk (w5.setCell ⟨g23, 2, none⟩ (.bool b)) g17 70 #[.slice A len c, .int .i64 ta, .bool true] ∧ Blk (w5.setCell ⟨g23, 2, none⟩ (.bool b)) g23 70 #[.slice A len c, .int .i64 ua, .bool (((uo && decide (k + qq < 64)) && decide (1 ≤ m)) && decide (m ≤ 10))] := fun b hb => by
                        have hgg := grownBy_set w5 g23 2 (.bool b)
                        exact ⟨hst5.grownG hgg (by omega), hc5.grown hgg (fun e => by injection e with e; omega), hz5.grown hgg (fun e => by injection e with e; omega), hr5.grown hgg (fun e => by injection e with e; omega), by rw [← hb]; exact hs5.set_ 2 _⟩
                      have HALL := Lib.hid hall
                      clear hall
                      go_cut [] from 82 to 144 (fun wx => Fst W dc ac z0 wx ∧ Blk wx gc 43 cc ∧ Blk wx g19 33 (intsC z) ∧ Blk wx g17 70 #[.slice A len c, .int .i64 ta, .bool true] ∧ Blk wx g23 70 #[.slice A len c, .int .i64 ua, .bool (((uo && decide (k + qq < 64)) && decide (1 ≤ m)) && decide (m ≤ 10))])
                      case first =>
                        cases uo
                        · go_wp2_with fail
                          go_meet
                          case rel => exact HALL.out _ (by simp)
                        · by_cases h64 : k + qq < 64
                          · have i64 : (k : Int) + (qq : Int) < 64 := by omega
                            by_cases h1 : 1 ≤ m
                            · have i1 : 1 ≤ (m : Int) := by omega
                              clear h1 h64
                              go_wp2_with fail
                              go_meet
                              case rel => exact HALL.out _ (bool_a i64 i1)
                            · have i1 : (m : Int) < 1 := by omega
                              clear h1 h64
                              go_wp2_with fail
                              go_meet
                              case rel => exact HALL.out _ (bool_b i1)
                          · have i64 : 64 ≤ (k : Int) + (qq : Int) := nat_ge64 h64
                            have i64b : decide ((k : Int) + (qq : Int) < 64) = false := decide_eq_false (nat_ge64b i64)
                            have I64 := Lib.hid i64
                            clear h64 i64
                            go_wp2_with fail
                            go_meet
                            case rel => exact HALL.out _ (bool_c I64.out)
                      case rest =>
                        clear HALL hst5 hc5 hz5 hr5 hs5 s2 f2
                        obtain ⟨hst, hc, hz, hr, hs⟩ := hcut
                        obtain ⟨o5, ho5⟩ : ∃ o5, o5 = (((uo && decide (k + qq < 64)) && decide (1 ≤ m)) && decide (m ≤ 10)) := ⟨_, rfl⟩
                        rw [← ho5] at hs
                        have HO5 := Lib.hid ho5
                        clear ho5
                        have g0 := hr.cell 0
                        have g1 := hr.cell 1
                        have g2 := hr.cell 2
                        have f0 := hr.frozen 0
                        have f1 := hr.frozen 1
                        have f2 := hr.frozen 2
                        have s0 := hs.cell 0
                        have s1 := hs.cell 1
                        have s2 := hs.cell 2
                        simp at g0 g1 g2 s0 s1 s2
                        have hgg := set3_grown wc g17 (.slice A len c) (.int .i64 ua) (.bool o5)
                        have hr7 := set3 (a := .slice A len c) (b := .int .i64 ua) (c := .bool o5) hr
                        have hst7 := hst.grownG hgg (by omega)
                        have hc7 := hc.grown hgg (fun e => by injection e with e; omega)
                        have hz7 := hz.grown hgg (fun e => by injection e with e; omega)
                        clear hst hc hz hr hs hgg
                        go_upto_region 23 with fail
                        obtain ⟨w7, hw7⟩ : ∃ w7, ((wc.setCell ⟨g17, 0, none⟩ (.slice A len c)).setCell ⟨g17, 1, none⟩ (.int .i64 ua)).setCell ⟨g17, 2, none⟩ (.bool o5) = w7 := ⟨_, rfl⟩
                        rw [hw7] at hr7 hst7 hc7 hz7 ⊢
                        clear hw7 g0 g1 g2 f0 f1 f2 s0 s1 s2
                        have g2 := hr7.cell 2
                        simp at g2
                        have hRt := ac_tail HR4.out (by rw [HM.out]) HU.out HO5.out
                        cases o5 with
                        | false =>
                          rw [if_neg (by simp)] at hRt
                          have HRT := Lib.hid hRt
                          clear hRt
                          go_wp2_with fail
                          go_roundg (80 - (k + qq + 1))
                          case measure => have := HGK.out; omega
                          case rel => exact ⟨n, k + qq + 1, ua, false, z, by go_num, by omega, by omega, by omega, HZl.out, hst7, hc7, hz7, hr7, u1, u2, by rw [HRT.out, if_neg (by simp)]⟩
                        | true =>
                          rw [if_pos rfl] at hRt
                          have h64 : k + qq < 64 := by
                            have := HO5.out
                            rcases Nat.lt_or_ge (k + qq) 64 with h | h
                            · exact h
                            · rw [decide_eq_false (show ¬ k + qq < 64 by omega)] at this; simp at this
                          have HRT := Lib.hid hRt
                          clear hRt
                          have hzc : w7.cell? ⟨g19, k + qq, none⟩ = some (.int .i64 (z.getD (k + qq) 0)) := by rw [hz7.cell]; exact intsC_at z _ (by rw [HZl.out]; omega)
                          have hzf := hz7.frozen (k + qq)
                          have i0 : (0 : Int) ≤ (k : Int) + (qq : Int) := by omega
                          have i1 : (k : Int) + (qq : Int) < 64 := by omega
                          have hgg := grownBy_set w7 g19 (k + qq) (.int .i64 un)
                          have hst8 := hst7.grownG hgg (by omega)
                          have hc8 := hc7.grown hgg (fun e => by injection e with e; omega)
                          have hr8 := hr7.grown hgg (fun e => by injection e with e; omega)
                          have hz8 : Blk (w7.setCell ⟨g19, k + qq, none⟩ (.int .i64 un)) g19 33 (intsC (z.set (k + qq) un)) := by rw [← intsC_set]; exact hz7.set_ _ _
                          clear hst7 hc7 hz7 hr7 hgg h64
                          go_wp2_with fail
                          go_roundg (80 - (k + qq + 1))
                          case measure => have := HGK.out; omega
                          case rel => exact ⟨n, k + qq + 1, ua, true, z.set (k + qq) un, by go_num, by omega, by omega, by omega, by rw [List.length_set]; exact HZl.out, hst8, hc8, hz8, hr8, u1, u2, by rw [HRT.out, if_pos rfl]⟩
            · have hR : R = if o = true then some (z, a) else none := by
                rw [HRn.out]
                cases o with
                | false => rfl
                | true =>
                  rw [if_pos rfl, if_pos rfl]
                  cases n with
                  | zero => rfl
                  | succ n => rw [acS, if_neg hk]
              have HR2 := Lib.hid hR
              clear hR
              go_wp2_with fail
              go_meet
              case rel => exact ⟨a, o, z, hst, hz, hr, HZl.out, HR2.out⟩
        case rest =>
          clear hst hc hz hr HRR HL KCA KN
          obtain ⟨a, o, z, hst, hz, hr, hzl, hR⟩ := hcut
          have hres := hst.z
          have hzs := size33 z hzl
          have hzo := intsC_one z
          have hos : z0.size = (intsC z).size := Option.some.inj (hz33.symm.trans hzs)
          have HOS := Lib.hid hos
          have HZl := Lib.hid hzl
          clear hos hzl
          have g2 := hr.cell 2
          simp at g2
          cases o with
          | false =>
            rw [if_neg (by simp)] at hR
            subst hR
            go_wp2_with (first | (refine wpList_ran (o := ⟨some 148, _, _, _, _, _⟩) rfl _ (HBL.out _ _ _ _) ?_) | (refine wpList_store_blk rfl 33 (.tmp 10) (.tmp 148) rfl (W.heap.size + 1 + 1) rfl 33 _ _ rfl hres hz33 rfl hone ?_; intro w2 hz1 hg1 hs1))
            have hst2 := hst.stored hz1 hg1
            rw [HZ0.out] at hz1
            exact bodyPost_ret (results_blk_tmp2 (P := Try.prog) (fn := Try.f22) rfl _ _ (W.heap.size + 1 + 1) 33 _ _ rfl hz1 Try.underlying33 rfl (size33 _ (by simp))) rfl ⟨rfl, hst2.b⟩
          | true =>
            rw [if_pos rfl] at hR
            subst hR
            go_upto_region 28 with fail
            refine wp_region_held (S := fun w => Blk w g19 33 (intsC z) ∧ Blk w g17 70 #[.slice A len c, .int .i64 a, .bool true]) (by kernel_rfl) ?_
            have hS6 : Blk wc.drew g19 33 (intsC z) ∧ Blk wc.drew g17 70 #[.slice A len c, .int .i64 a, .bool true] := ⟨hz.drew, hr.drew⟩
            have hst6 : Fst W dc ac z0 wc.drew := ⟨hst.d.drew, hst.a.drew, hst.z.drew, hst.b.drew⟩
            show wpAnyH _ _ _ _ _ _ _ _ wc.drew
            generalize wc.drew = w6 at *
            refine wpAnyH_take (i := 0) (oi := ⟨some 149, _, _, _, _, _⟩) (v := .agg (intsC z)) rfl (by kernel_rfl) (by kernel_rfl) (by kernel_rfl) (fun c a w h => h) (yieldsIf_load_blk (by rfl) 33 (.tmp 19) rfl g19 rfl 33 _ _ (fun w h => h.1) Try.underlying33 rfl hzs) hS6 ?_
            simp only [Act.put, List.setIfInBounds_toArray, List.set_cons_zero, List.set_cons_succ]
            refine wpAnyH_take (i := 1) (oi := ⟨some 150, _, _, _, _, _⟩) (v := .pointer (some ⟨g17, 1, none⟩)) rfl (by kernel_rfl) (by kernel_rfl) (by kernel_rfl) (fun c a w h => h) (Or.inl ⟨by rfl, fun w _ => by kernel_rfl⟩) hS6 ?_
            simp only [Act.put, List.setIfInBounds_toArray, List.set_cons_zero, List.set_cons_succ]
            refine wpAnyH_take (i := 2) (oi := ⟨some 151, _, _, _, _, _⟩) (v := .int .i64 a) rfl (by kernel_rfl) (by kernel_rfl) (by kernel_rfl) (fun c a w h => h) (yieldsIf_load_cell (by rfl) 3 (.tmp 150) rfl ⟨g17, 1, none⟩ rfl _ _ (fun w h => h.2.cell 1) Try.underlying3 rfl) hS6 ?_
            simp only [Act.put, List.setIfInBounds_toArray, List.set_cons_zero, List.set_cons_succ]
            refine wpAnyH_ready (rs := [3]) (by kernel_rfl) (by simp) ?_
            refine AllReadyH.cons rfl (fun K' hK' => ?_) AllReadyH.nil
            rw [if_pos (by rfl)]
            refine wp_store_blk 33 (.tmp 10) (.tmp 149) rfl (W.heap.size + 1 + 1) rfl 33 z0 (intsC z) rfl hst6.z hzs HOS.out hzo ?_
            intro w7 hz7 hg7
            have hst7 := hst6.stored hz7 hg7
            have hS7 : Blk w7 g19 33 (intsC z) ∧ Blk w7 g17 70 #[.slice A len c, .int .i64 a, .bool true] := ⟨hS6.1.grown hg7 (fun e => by injection e with e; omega), hS6.2.grown hg7 (fun e => by injection e with e; omega)⟩
            refine hK'.out _ _ hS7 (fun hS8 => ?_)
            clear hK' K'
            refine wpAnyH_ready (rs := [4]) (by kernel_rfl) (by simp) ?_
            refine AllReadyH.cons rfl (fun K' hK' => ?_) AllReadyH.nil
            go_simp
            refine hK'.out _ _ hS7 (fun hS8 => ?_)
            clear hK' K'
            refine wpAnyH_ready (rs := [5]) (by kernel_rfl) (by simp) ?_
            refine AllReadyH.cons rfl (fun K' hK' => ?_) AllReadyH.nil
            go_simp
            refine hK'.out _ _ hS7 (fun hS8 => ?_)
            clear hK' K'
            refine wpAnyH_done (by kernel_rfl) ?_ _
            go_wp2_with fail
            exact bodyPost_ret (results_blk_tmp2 (P := Try.prog) (fn := Try.f22) rfl _ _ (W.heap.size + 1 + 1) 33 _ _ rfl hz7 Try.underlying33 rfl hzs) rfl ⟨rfl, hst7.b⟩
end Go.Proofs.Ytbjcjddaaegheaa
