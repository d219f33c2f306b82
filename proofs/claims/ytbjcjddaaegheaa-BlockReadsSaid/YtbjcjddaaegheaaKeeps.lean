/- law13.BlockKeeps is true. -/
import Derived.Test.YtbjcjddaaegheaaKnown
import Derived.Test.YtbjcjddaaegheaaEqArr
import Derived.BigQuiet
namespace Go.Proofs.Ytbjcjddaaegheaa
open Go.RowKit

def cnt : List Int → Nat
  | [] => 0
  | x :: t => if x = 0 then cnt t else cnt t + 1
theorem cnt_le (l : List Int) : cnt l ≤ l.length := by
  induction l with
  | nil => simp [cnt]
  | cons x t ih => simp only [cnt, List.length_cons]; split <;> omega
theorem cnt_append (a b : List Int) : cnt (a ++ b) = cnt a + cnt b := by
  induction a with
  | nil => simp [cnt]
  | cons x t ih => simp only [List.cons_append, cnt, ih]; split <;> omega
theorem cnt_take (l : List Int) (p : Nat) (h : p < l.length) : cnt (l.take (p + 1)) = cnt (l.take p) + if l.getD p 0 = 0 then 0 else 1 := by
  rw [take_getD l p h, cnt_append]
  simp only [cnt]
theorem keepT_length (t : List Int) (m : Int) : (keepT t m).length = t.length := by
  induction t generalizing m with
  | nil => rfl
  | cons x t ih => simp only [keepT]; split <;> (try split) <;> simp [ih]
theorem keepT_get (t : List Int) (m : Int) (p : Nat) : (keepT t m).getD p 0 = 0 ∨ (keepT t m).getD p 0 = t.getD p 0 := by
  induction t generalizing m p with
  | nil => left; simp [keepT]
  | cons x t ih =>
    simp only [keepT]
    cases p with
    | zero =>
      split
      · left; rfl
      · split
        · right; rfl
        · left; rfl
    | succ p =>
      split
      · simpa using ih m p
      · split
        · simpa using ih (m - 1) p
        · simpa using ih m p
theorem keepT_zero (t : List Int) (m : Int) (p : Nat) (h0 : (keepT t m).getD p 0 = 0) (h1 : t.getD p 0 ≠ 0) : m ≤ cnt ((keepT t m).take p) := by
  induction t generalizing m p with
  | nil => simp at h1
  | cons x t ih =>
    cases p with
    | zero =>
      simp only [keepT] at h0
      by_cases hx : x = 0
      · subst hx; simp at h1
      · rw [if_neg hx] at h0
        by_cases hm : 0 < m
        · rw [if_pos hm] at h0; simp at h0; exact absurd h0 hx
        · simp; omega
    | succ p =>
      have h1' : t.getD p 0 ≠ 0 := by simpa using h1
      simp only [keepT] at h0 ⊢
      by_cases hx : x = 0
      · rw [if_pos hx] at h0 ⊢
        have := ih m p (by simpa using h0) h1'
        simpa [cnt] using this
      · rw [if_neg hx] at h0 ⊢
        by_cases hm : 0 < m
        · rw [if_pos hm] at h0 ⊢
          have := ih (m - 1) p (by simpa using h0) h1'
          simp only [List.take_succ_cons, cnt, if_neg hx]
          omega
        · have := Int.natCast_nonneg (cnt (List.take (p + 1) (if 0 < m then x :: keepT t (m - 1) else 0 :: keepT t m)))
          omega
theorem keepT_cnt (t : List Int) (m : Nat) : cnt (keepT t m) = min (cnt t) m := by
  induction t generalizing m with
  | nil => simp [keepT, cnt]
  | cons x t ih =>
    simp only [keepT, cnt]
    by_cases hx : x = 0
    · simp [hx, cnt, ih]
    · simp only [if_neg hx]
      by_cases hm : (0 : Int) < m
      · rw [if_pos hm, cnt, if_neg hx, show ((m : Int) - 1) = ((m - 1 : Nat) : Int) by omega, ih]; omega
      · obtain rfl : m = 0 := by omega
        have := ih 0
        rw [if_neg (by simp)]
        simp only [cnt, if_true]
        omega
theorem keepT_all (t : List Int) (m : Int) (h : (cnt t : Int) ≤ m) : keepT t m = t := by
  induction t generalizing m with
  | nil => rfl
  | cons x t ih =>
    simp only [keepT]
    by_cases hx : x = 0
    · rw [if_pos hx, ih m (by simpa [cnt, hx] using h), hx]
    · rw [if_neg hx]
      simp only [cnt, if_neg hx] at h
      rw [if_pos (by omega), ih (m - 1) (by omega)]
theorem keepS_length (z : List Int) (m : Int) (h : z.length = 64) : (keepS z m).length = 64 := by
  simp [keepS, keepT_length, h]
theorem keepS_drop (z : List Int) (m : Int) (h : z.length = 64) : (keepS z m).drop 1 = keepT (z.drop 1) m := by
  unfold keepS
  rw [List.drop_append, List.drop_eq_nil_of_le (by simp; omega)]
  simp [h]
theorem keepS_zero (z : List Int) (m : Int) (h : z.length = 64) : (keepS z m).getD 0 0 = z.getD 0 0 := by
  unfold keepS
  match z, h with
  | x :: t, _ => simp
theorem keepS_all (z : List Int) (m : Int) (h : (cnt (z.drop 1) : Int) ≤ m) : keepS z m = z := by
  unfold keepS
  rw [keepT_all _ _ h, List.take_append_drop]
theorem getD_drop1 (z : List Int) (p : Nat) : (z.drop 1).getD p 0 = z.getD (p + 1) 0 := by
  simp [List.getD_eq_getElem?_getD]

theorem bel_drewN {B : Nat} {w w' : World} (h : Below B w w') (n : Nat) : Below B w (w'.drewN n) := h.trans ⟨rfl, rfl, rfl, Nat.le_refl _, fun _ _ => rfl⟩
attribute [local irreducible] wpStill
set_option maxRecDepth 100000 in
set_option maxHeartbeats 2000000 in
theorem keeps_any (A : Option Addr) (c len : Nat) (bs : List Int) (k n : Int) (W : World) (hlen : bs.length = len) (hb : AreBytes bs) (hr : Reads W W.heap.size 1 A len (bytesV bs))
    (hl : len ≤ 9223372036854775807) (k0 : 0 ≤ k) (k1 : k ≤ 255) (n0 : 0 ≤ n) (n1 : n ≤ 255) :
    Calls Try.prog 7 #[.slice A len c, .int .u8 k, .int .u8 n] W fun e w' => e = .returned (.bool true) ∧ Below W.heap.size W w' := by
  obtain ⟨zz, hzz⟩ : ∃ zz, zz = intsC (List.replicate 64 0) := ⟨_, rfl⟩
  have hz33 : ∀ w, (zeroValue 33).run Try.prog w = .ok (.agg zz) w := by rw [hzz]; exact zero33
  have hzs : zz.size = 64 := by rw [hzz, intsC_size]; simp
  have HZS := Lib.hid hzs
  have KZ := Lib.hid (zig_any W.heap.size A c len bs k W hlen hb (Nat.le_refl _) hr hl k0 k1)
  clear hzz hzs hlen hb hr
  go_enter Try.func7, Try.ntmps7
  go_wp2_with fail
  refine KZ.out.mono ?_
  rintro e w1 ⟨z, hz, rfl, hb1⟩
  have hzl := hz.len
  have HZ := Lib.hid hz
  have hs33 := size33 z hzl
  have hone := intsC_one z
  have hos : zz.size = (intsC z).size := by rw [HZS.out, intsC_size, hzl]
  have hzat := fun i (h : i < 64) => intsC_at z i (by rw [hzl]; exact h)
  have HZAT := Lib.hid hzat
  obtain ⟨cz, hcz⟩ : ∃ cz, cz = intsC z := ⟨_, rfl⟩
  rw [← hcz] at hs33 hone hos ⊢
  have HOS := Lib.hid hos
  have HCZ := Lib.hid hcz
  have HZL := Lib.hid hzl
  have KK : Hid (∀ (m : Int) (W : World), -9223372036854775808 ≤ m → m ≤ 9223372036854775807 → Calls Try.prog 19 #[.agg cz, .int .i64 m] W fun e w' => e = .returned (.agg (intsC (keepS z m))) ∧ Below W.heap.size W w') := Lib.hid (fun m W h0 h1 => by rw [hcz]; exact keep_any z m W hzl h0 h1)
  clear hz hcz hos hzat hzl
  have hn1 := Blk.new w1 33 zz
  have hbe1 := hb1.alloc hb1.size (.cells zz 33)
  have hsz1 := hb1.size
  go_wp2_with (refine wpList_store_blk rfl 33 (.tmp 7) (.tmp 15) rfl w1.heap.size rfl 33 zz cz rfl hn1 hs33 HOS.out hone ?_; intro w2 hB2 hg2 hs2; clear hs2)
  have hbe2 := hbe1.grown hg2 (by simp; omega) (fun k e => by cases e; exact hsz1)
  clear hb1 hn1 hbe1 hg2
  generalize w1.heap.size = g at *
  obtain ⟨t, ht⟩ : ∃ t, t = z.drop 1 := ⟨_, rfl⟩
  have HT := Lib.hid ht
  have htl : t.length = 63 := by rw [ht, List.length_drop, HZL.out]
  have HTL := Lib.hid htl
  clear ht htl
  go_loopw [8, 9] (fun v8 v9 (w : World) => ∃ p : Nat, p ≤ 63 ∧ v9 = .int .i64 (p + 1 : Nat) ∧ v8 = .int .i64 (cnt (t.take p)) ∧ w = w2) (fun _ v9 _ => 64 - (intOf v9).toNat)
  case atStart => exact ⟨0, by omega, rfl, rfl, rfl⟩
  case round =>
    obtain ⟨p, hp, rfl, rfl, rfl⟩ := hrel
    by_cases hlt : p < 63
    · obtain ⟨x, hx⟩ : ∃ x, x = z.getD (p + 1) 0 := ⟨_, rfl⟩
      have hcx : wr.cell? ⟨g, p + 1, none⟩ = some (.int .i64 x) := by rw [hB2.cell, HCZ.out, hx]; exact HZAT.out (p + 1) (by omega)
      have hct := cnt_take t p (by rw [HTL.out]; exact hlt)
      have hcl := cnt_le (t.take p)
      have htk : (t.take p).length ≤ 63 := by simp; omega
      obtain ⟨m, hm⟩ : ∃ m, m = cnt (t.take p) := ⟨_, rfl⟩
      rw [← hm] at hct hcl ⊢
      rw [HT.out, getD_drop1, ← hx, ← HT.out] at hct
      have HC := Lib.hid hct
      have hm63 : m ≤ 63 := by omega
      clear hm hct hx
      by_cases hx0 : x = 0
      · subst hx0
        go_wp2_with fail
        go_roundw
        case rel => exact ⟨p + 1, by omega, by go_num, by rw [HC.out]; rfl, trivial⟩
        case measure => simp [intOf]; omega
      · have hxe : (x == 0) = false := by simpa using hx0
        go_wp2_with fail
        go_roundw
        case rel => exact ⟨p + 1, by omega, by go_num, by rw [HC.out, if_neg hx0]; go_num, trivial⟩
        case measure => simp [intOf]; omega
    · obtain rfl : p = 63 := by omega
      have htk : t.take 63 = t := List.take_of_length_le (by rw [HTL.out]; omega)
      have hcl := cnt_le t
      rw [HTL.out] at hcl
      rw [htk]
      obtain ⟨sm, hsm⟩ : ∃ sm, sm = cnt t := ⟨_, rfl⟩
      rw [← hsm] at hcl ⊢
      have HSM := Lib.hid hsm
      clear hsm htk
      go_wp2_with (refine wpList_load_blk rfl 33 (.tmp 7) rfl g rfl 33 _ _ hB2 Try.underlying33 rfl hs33 ?_)
      refine (KK.out _ _ (by omega) (by omega)).mono ?_
      rintro e w3 ⟨rfl, hb3⟩
      obtain ⟨m, hm⟩ : ∃ m : Nat, n % 70 = m := ⟨(n % 70).toNat, by omega⟩
      have hm70 : m < 70 := by omega
      rw [hm]
      have hll := keepS_length z m HZL.out
      have hld := keepS_drop z m HZL.out
      have hl0 := keepS_zero z m HZL.out
      rw [← HT.out] at hld
      obtain ⟨l, hlq⟩ : ∃ l, l = keepS z m := ⟨_, rfl⟩
      rw [← hlq] at hll hld hl0 ⊢
      have hlat := fun i (h : i < 64) => intsC_at l i (by rw [hll]; exact h)
      have hos2 : zz.size = (intsC l).size := by rw [HZS.out, intsC_size, hll]
      have hsl := size33 l hll
      have hol := intsC_one l
      have hB3 := hB2.below hb3 hB2.lt
      have hbe3 := hbe2.trans (hb3.mono hbe2.size)
      have hn3 := (Blk.new w3 33 zz)
      have hB3' := hB3.alloc (.cells zz 33)
      have hbe3' := hbe3.alloc hbe3.size (.cells zz 33)
      obtain ⟨cl, hcl2⟩ : ∃ cl, cl = intsC l := ⟨_, rfl⟩
      rw [← hcl2] at hos2 hsl hol hlat ⊢
      have HOS2 := Lib.hid hos2
      have HLAT := Lib.hid hlat
      have HLD := Lib.hid hld
      have HL0 := Lib.hid hl0
      have HM := Lib.hid hm
      clear hlq hos2 hlat hld hl0 hcl2 hB2 hb3
      go_wp2_with (refine wpList_store_blk rfl 33 (.tmp 10) (.tmp 30) rfl w3.heap.size rfl 33 zz cl rfl hn3 hsl HOS2.out hol ?_; intro w4 hC4 hg4 hs4; clear hs4)
      have hB4 := hB3'.grown hg4 (fun e => by injection e with e; have := hB3.lt; omega)
      have hbe4 := hbe3'.grown hg4 (by have := hbe3.size; simp; omega) (fun k e => by cases e; exact hbe3.size)
      clear hB3 hB3' hbe3 hbe3' hn3 hg4
      generalize w3.heap.size = g4 at *
      obtain ⟨lt, hlt2⟩ : ∃ lt, lt = keepT t m := ⟨_, rfl⟩
      have hltl : lt.length = 63 := by rw [hlt2, keepT_length, HTL.out]
      have HLT := Lib.hid hlt2
      have HLTL := Lib.hid hltl
      clear hlt2 hltl
      go_loopw [11, 12] (fun v11 v12 (w : World) => ∃ p : Nat, p ≤ 63 ∧ v12 = .int .i64 (p + 1 : Nat) ∧ v11 = .int .i64 (cnt (lt.take p)) ∧ Blk w g 33 cz ∧ Blk w g4 33 cl ∧ Below W.heap.size W w) (fun _ v12 _ => 64 - (intOf v12).toNat)
      case atStart => exact ⟨0, by omega, rfl, rfl, hB4, hC4, hbe4⟩
      case round =>
        clear hB4 hC4 hbe4 hp hlt
        obtain ⟨p, hp, rfl, rfl, hB, hC, hbe⟩ := hrel
        by_cases hlt : p < 63
        · obtain ⟨b, hb⟩ : ∃ b, b = z.getD (p + 1) 0 := ⟨_, rfl⟩
          obtain ⟨a, ha⟩ : ∃ a, a = l.getD (p + 1) 0 := ⟨_, rfl⟩
          obtain ⟨i, hi⟩ : ∃ i, i = p + 1 := ⟨_, rfl⟩
          have hcb : wr.cell? ⟨g, i, none⟩ = some (.int .i64 b) := by rw [hB.cell, HCZ.out, hb, hi]; exact HZAT.out (p + 1) (by omega)
          have hca : wr.cell? ⟨g4, i, none⟩ = some (.int .i64 a) := by rw [hC.cell, ha, hi]; exact HLAT.out (p + 1) (by omega)
          have hat : lt.getD p 0 = a := by rw [ha, ← getD_drop1, HLD.out, HLT.out]
          have hbt : t.getD p 0 = b := by rw [hb, ← getD_drop1, HT.out]
          have hct := cnt_take lt p (by rw [HLTL.out]; exact hlt)
          have hcl3 := cnt_le (lt.take p)
          have htk : (lt.take p).length ≤ 63 := by simp; omega
          have hget := keepT_get t m p
          rw [← HLT.out, hat, hbt] at hget
          have hzer := keepT_zero t m p
          rw [← HLT.out, hat, hbt] at hzer
          obtain ⟨q, hq⟩ : ∃ q, q = cnt (lt.take p) := ⟨_, rfl⟩
          rw [← hq] at hct hcl3 hzer ⊢
          rw [hat] at hct
          have HC := Lib.hid hct
          have hq63 : q ≤ 63 := by omega
          rw [← hi]
          have hi64 : i < 64 := by omega
          have HI := Lib.hid hi
          clear hq hct ha hb hat hbt hi
          by_cases ha0 : a = 0
          · subst ha0
            have HC2 : Hid (cnt (lt.take (p + 1)) = q) := Lib.hid (by rw [HC.out]; rfl)
            by_cases hb0 : b = 0
            · subst hb0
              clear hget hzer
              go_wp2_with fail
              go_quiet (fail)
              go_wp2_with fail
              go_roundw
              case rel => exact ⟨p + 1, by omega, by have := HI.out; congr 1; omega, by rw [HC2.out], hB.drewN _, hC.drewN _, bel_drewN hbe _⟩
              case measure => have := HI.out; simp [intOf]; omega
            · have hqm := hzer rfl hb0
              have hdn : decide ((q : Int) < n % 70) = false := decide_eq_false (by rw [HM.out]; omega)
              have hdm : n % 70 ≤ (q : Int) := by rw [HM.out]; exact hqm
              have hbe0 : (b == 0) = false := by simpa using hb0
              have hbn : (b != 0) = true := by simpa using hb0
              have hwm : IntKind.i64.wrap (n.tmod 70) ≤ (q : Int) := by
                rw [Int.tmod_eq_emod_of_nonneg n0, IntKind.wrap_i64]
                omega
              clear hget hzer hdm hdn
              go_wp2_with fail
              go_quiet (fail)
              go_wp2_with fail
              go_roundw
              case rel => exact ⟨p + 1, by omega, by have := HI.out; congr 1; omega, by rw [HC2.out], hB.drewN _, hC.drewN _, bel_drewN hbe _⟩
              case measure => have := HI.out; simp [intOf]; omega
          · have hab : a = b := hget.resolve_left ha0
            subst hab
            have HC2 : Hid (cnt (lt.take (p + 1)) = q + 1) := Lib.hid (by rw [HC.out, if_neg ha0])
            have hae : (a == 0) = false := by simpa using ha0
            clear hget hzer
            go_wp2_with fail
            go_quiet (fail)
            go_wp2_with fail
            go_roundw
            case rel => exact ⟨p + 1, by omega, by have := HI.out; congr 1; omega, by rw [HC2.out]; go_num, hB.drewN _, hC.drewN _, bel_drewN hbe _⟩
            case measure => have := HI.out; simp [intOf]; omega
        · obtain rfl : p = 63 := by omega
          have htk : lt.take 63 = lt := List.take_of_length_le (by rw [HLTL.out]; omega)
          have hck : cnt lt = min sm m := by rw [HLT.out, keepT_cnt, ← HSM.out]
          rw [htk, hck]
          have hall : keepS z sm = z := keepS_all z sm (by rw [← HT.out, ← HSM.out]; exact Int.le_refl _)
          have HALL := Lib.hid hall
          have hl0 := HL0.out
          obtain ⟨f, hf⟩ : ∃ f, f = z.getD 0 0 := ⟨_, rfl⟩
          rw [← hf] at hl0
          have hcz0 : ∀ w : World, Blk w g 33 cz → w.cell? ⟨g, 0, none⟩ = some (.int .i64 f) := fun w h => by rw [h.cell, HCZ.out, hf]; exact HZAT.out 0 (by omega)
          have hcl0 : ∀ w : World, Blk w g4 33 cl → w.cell? ⟨g4, 0, none⟩ = some (.int .i64 f) := fun w h => by rw [h.cell, ← hl0]; exact HLAT.out 0 (by omega)
          have KK2 : Hid (∀ W : World, Calls Try.prog 19 #[.agg cz, .int .i64 sm] W fun e w' => e = .returned (.agg cz) ∧ Below W.heap.size W w') := Lib.hid (fun W => by
            have := KK.out sm W (by omega) (by omega)
            rw [HALL.out, ← HCZ.out] at this
            exact this)
          have HE : Hid (∀ (w : World) (f : Operand → Value) (o : Oper), o.op = .binOp .eql 33 (.tmp 93) (.tmp 94) 33 → f (.tmp 93) = .agg cz → f (.tmp 94) = .agg cz → (execOp f o).run Try.prog w = .ok (.value (.bool true)) w) := Lib.hid (fun w f o ho h1 h2 => by
            have := run_eql33 z z HZL.out HZL.out w f o _ _ ho (by rw [h1, HCZ.out]) (by rw [h2, HCZ.out])
            rw [beq_self_eq_true] at this
            exact this)
          clear hf hl0 hall htk hck
          go_wp2_with fail
          rename_i K hK
          refine wp_region_noPanic ?_
          refine wp_region_held (S := fun w => Blk w g 33 cz ∧ Blk w g4 33 cl) (by kernel_rfl) ?_
          show wpAnyH _ _ _ _ _ _ _ _ wr.drew
          have hbe1 := hbe.drew
          have hB1 := hB.drew
          have hC1 := hC.drew
          clear hB hC hbe
          refine wpAnyH_ready (rs := [0]) (by kernel_rfl) (by simp) ?_
          refine AllReadyH.cons rfl (fun K' hK' => ?_) AllReadyH.nil
          go_simp
          refine (known_any _).mono ?_
          rintro e w5 ⟨rfl, hb5⟩
          have hB5 := hB1.below hb5 hB1.lt
          have hC5 := hC1.below hb5 hC1.lt
          have hbe5 := hbe1.trans (hb5.mono hbe1.size)
          refine hK'.out _ _ ⟨hB5, hC5⟩ (fun hS5 => ?_)
          clear hK' K' hb5 hB1 hC1 hbe1
          have hru : n.tmod 70 = (m : Int) := by rw [Int.tmod_eq_emod_of_nonneg n0, HM.out]
          have hri : IntKind.i64.wrap (m : Int) = (m : Int) := by rw [IntKind.wrap_i64]; omega
          refine wpAnyH_take (i := 1) (oi := ⟨some 74, _, _, _, _, _⟩) (v := .bool true) rfl (by kernel_rfl) (by kernel_rfl) (by kernel_rfl) (fun c a w h => h) (Or.inl ⟨by rfl, fun w _ => rfl⟩) ⟨hB5, hC5⟩ ?_
          simp only [Act.put, List.setIfInBounds_toArray, List.set_cons_zero, List.set_cons_succ]
          refine wpAnyH_take (i := 2) (oi := ⟨some 75, _, _, _, _, _⟩) (v := .pointer (some ⟨g4, 0, none⟩)) rfl (by kernel_rfl) (by kernel_rfl) (by kernel_rfl) (fun c a w h => h) (Or.inl ⟨by rfl, fun w _ => by kernel_rfl⟩) ⟨hB5, hC5⟩ ?_
          simp only [Act.put, List.setIfInBounds_toArray, List.set_cons_zero, List.set_cons_succ]
          refine wpAnyH_take (i := 3) (oi := ⟨some 76, _, _, _, _, _⟩) (v := .int .i64 f) rfl (by kernel_rfl) (by kernel_rfl) (by kernel_rfl) (fun c a w h => h) (yieldsIf_load_cell (by rfl) 3 (.tmp 75) rfl ⟨g4, 0, none⟩ rfl _ _ (fun w h => hcl0 w h.2) Try.underlying3 rfl) ⟨hB5, hC5⟩ ?_
          simp only [Act.put, List.setIfInBounds_toArray, List.set_cons_zero, List.set_cons_succ]
          refine wpAnyH_take (i := 4) (oi := ⟨some 77, _, _, _, _, _⟩) (v := .pointer (some ⟨g, 0, none⟩)) rfl (by kernel_rfl) (by kernel_rfl) (by kernel_rfl) (fun c a w h => h) (Or.inl ⟨by rfl, fun w _ => by kernel_rfl⟩) ⟨hB5, hC5⟩ ?_
          simp only [Act.put, List.setIfInBounds_toArray, List.set_cons_zero, List.set_cons_succ]
          refine wpAnyH_take (i := 5) (oi := ⟨some 78, _, _, _, _, _⟩) (v := .int .i64 f) rfl (by kernel_rfl) (by kernel_rfl) (by kernel_rfl) (fun c a w h => h) (yieldsIf_load_cell (by rfl) 3 (.tmp 77) rfl ⟨g, 0, none⟩ rfl _ _ (fun w h => hcz0 w h.1) Try.underlying3 rfl) ⟨hB5, hC5⟩ ?_
          simp only [Act.put, List.setIfInBounds_toArray, List.set_cons_zero, List.set_cons_succ]
          refine wpAnyH_take (i := 6) (oi := ⟨some 79, _, _, _, _, _⟩) (v := .bool (f == f)) rfl (by kernel_rfl) (by kernel_rfl) (by kernel_rfl) (fun c a w h => h) (Or.inl ⟨by rfl, fun w _ => rfl⟩) ⟨hB5, hC5⟩ ?_
          simp only [Act.put, List.setIfInBounds_toArray, List.set_cons_zero, List.set_cons_succ]
          rw [beq_self_eq_true]
          refine wpAnyH_take (i := 7) (oi := ⟨some 80, _, _, _, _, _⟩) (v := .bool true) rfl (by kernel_rfl) (by kernel_rfl) (by kernel_rfl) (fun c a w h => h) (Or.inl ⟨by rfl, fun w _ => rfl⟩) ⟨hB5, hC5⟩ ?_
          simp only [Act.put, List.setIfInBounds_toArray, List.set_cons_zero, List.set_cons_succ]
          refine wpAnyH_take (i := 8) (oi := ⟨some 81, _, _, _, _, _⟩) (v := .bool true) rfl (by kernel_rfl) (by kernel_rfl) (by kernel_rfl) (fun c a w h => h) (Or.inl ⟨by rfl, fun w _ => rfl⟩) ⟨hB5, hC5⟩ ?_
          simp only [Act.put, List.setIfInBounds_toArray, List.set_cons_zero, List.set_cons_succ]
          refine wpAnyH_take (i := 9) (oi := ⟨some 82, _, _, _, _, _⟩) (v := .int .i64 ((min sm m : Nat) : Int)) rfl (by kernel_rfl) (by kernel_rfl) (by kernel_rfl) (fun c a w h => h) (Or.inl ⟨by rfl, fun w _ => rfl⟩) ⟨hB5, hC5⟩ ?_
          simp only [Act.put, List.setIfInBounds_toArray, List.set_cons_zero, List.set_cons_succ]
          refine wpAnyH_take (i := 10) (oi := ⟨some 83, _, _, _, _, _⟩) (v := .int .i64 sm) rfl (by kernel_rfl) (by kernel_rfl) (by kernel_rfl) (fun c a w h => h) (Or.inl ⟨by rfl, fun w _ => rfl⟩) ⟨hB5, hC5⟩ ?_
          simp only [Act.put, List.setIfInBounds_toArray, List.set_cons_zero, List.set_cons_succ]
          refine wpAnyH_take (i := 11) (oi := ⟨some 84, _, _, _, _, _⟩) (v := .int .u8 n) rfl (by kernel_rfl) (by kernel_rfl) (by kernel_rfl) (fun c a w h => h) (Or.inl ⟨by rfl, fun w _ => rfl⟩) ⟨hB5, hC5⟩ ?_
          simp only [Act.put, List.setIfInBounds_toArray, List.set_cons_zero, List.set_cons_succ]
          refine wpAnyH_take (i := 12) (oi := ⟨some 85, _, _, _, _, _⟩) (v := .int .u8 (n.tmod 70)) rfl (by kernel_rfl) (by kernel_rfl) (by kernel_rfl) (fun c a w h => h) (Or.inl ⟨by rfl, fun w _ => rfl⟩) ⟨hB5, hC5⟩ ?_
          simp only [Act.put, List.setIfInBounds_toArray, List.set_cons_zero, List.set_cons_succ]
          rw [hru]
          refine wpAnyH_take (i := 13) (oi := ⟨some 86, _, _, _, _, _⟩) (v := .int .i64 (IntKind.i64.wrap m)) rfl (by kernel_rfl) (by kernel_rfl) (by kernel_rfl) (fun c a w h => h) (Or.inl ⟨by rfl, fun w _ => rfl⟩) ⟨hB5, hC5⟩ ?_
          simp only [Act.put, List.setIfInBounds_toArray, List.set_cons_zero, List.set_cons_succ]
          rw [hri]
          have hmin : (if (m : Int) < sm then (m : Int) else sm) = ((min sm m : Nat) : Int) := by split <;> omega
          refine wpAnyH_take (i := 14) (oi := ⟨some 87, _, _, _, _, _⟩) (v := .int .i64 (if (m : Int) < sm then (m : Int) else sm)) rfl (by kernel_rfl) (by kernel_rfl) (by kernel_rfl) (fun c a w h => h) (Or.inl ⟨by rfl, fun w _ => by kernel_rfl⟩) ⟨hB5, hC5⟩ ?_
          simp only [Act.put, List.setIfInBounds_toArray, List.set_cons_zero, List.set_cons_succ]
          rw [hmin]
          refine wpAnyH_take (i := 15) (oi := ⟨some 88, _, _, _, _, _⟩) (v := .bool (((min sm m : Nat) : Int) == ((min sm m : Nat) : Int))) rfl (by kernel_rfl) (by kernel_rfl) (by kernel_rfl) (fun c a w h => h) (Or.inl ⟨by rfl, fun w _ => rfl⟩) ⟨hB5, hC5⟩ ?_
          simp only [Act.put, List.setIfInBounds_toArray, List.set_cons_zero, List.set_cons_succ]
          rw [beq_self_eq_true]
          refine wpAnyH_take (i := 16) (oi := ⟨some 89, _, _, _, _, _⟩) (v := .bool true) rfl (by kernel_rfl) (by kernel_rfl) (by kernel_rfl) (fun c a w h => h) (Or.inl ⟨by rfl, fun w _ => rfl⟩) ⟨hB5, hC5⟩ ?_
          simp only [Act.put, List.setIfInBounds_toArray, List.set_cons_zero, List.set_cons_succ]
          refine wpAnyH_take (i := 17) (oi := ⟨some 90, _, _, _, _, _⟩) (v := .bool true) rfl (by kernel_rfl) (by kernel_rfl) (by kernel_rfl) (fun c a w h => h) (Or.inl ⟨by rfl, fun w _ => rfl⟩) ⟨hB5, hC5⟩ ?_
          simp only [Act.put, List.setIfInBounds_toArray, List.set_cons_zero, List.set_cons_succ]
          refine wpAnyH_take (i := 18) (oi := ⟨some 91, _, _, _, _, _⟩) (v := .agg cz) rfl (by kernel_rfl) (by kernel_rfl) (by kernel_rfl) (fun c a w h => h) (yieldsIf_load_blk (by rfl) 33 (.tmp 7) rfl g rfl 33 cz _ (fun w h => h.1) Try.underlying33 rfl hs33) ⟨hB5, hC5⟩ ?_
          simp only [Act.put, List.setIfInBounds_toArray, List.set_cons_zero, List.set_cons_succ]
          refine wpAnyH_take (i := 19) (oi := ⟨some 92, _, _, _, _, _⟩) (v := .int .i64 sm) rfl (by kernel_rfl) (by kernel_rfl) (by kernel_rfl) (fun c a w h => h) (Or.inl ⟨by rfl, fun w _ => rfl⟩) ⟨hB5, hC5⟩ ?_
          simp only [Act.put, List.setIfInBounds_toArray, List.set_cons_zero, List.set_cons_succ]
          refine wpAnyH_take (i := 21) (oi := ⟨some 94, _, _, _, _, _⟩) (v := .agg cz) rfl (by kernel_rfl) (by kernel_rfl) (by kernel_rfl) (fun c a w h => h) (yieldsIf_load_blk (by rfl) 33 (.tmp 7) rfl g rfl 33 cz _ (fun w h => h.1) Try.underlying33 rfl hs33) ⟨hB5, hC5⟩ ?_
          simp only [Act.put, List.setIfInBounds_toArray, List.set_cons_zero, List.set_cons_succ]
          refine wpAnyH_ready (rs := [20]) (by kernel_rfl) (by simp) ?_
          refine AllReadyH.cons rfl (fun K' hK' => ?_) AllReadyH.nil
          go_simp
          refine (KK2.out _).mono ?_
          rintro e w6 ⟨rfl, hb6⟩
          have hB6 := hB5.below hb6 hB5.lt
          have hC6 := hC5.below hb6 hC5.lt
          have hbe6 := hbe5.trans (hb6.mono hbe5.size)
          refine hK'.out _ _ ⟨hB6, hC6⟩ (fun hS5 => ?_)
          clear hK' K' hS5 hb6 hB5 hC5 hbe5
          refine wpAnyH_take (i := 22) (oi := ⟨some 95, _, _, _, _, _⟩) (v := .bool true) rfl (by kernel_rfl) (by kernel_rfl) (by kernel_rfl) (fun c a w h => h) (Or.inl ⟨by rfl, fun w _ => HE.out w _ _ rfl rfl rfl⟩) ⟨hB6, hC6⟩ ?_
          simp only [Act.put, List.setIfInBounds_toArray, List.set_cons_zero, List.set_cons_succ]
          refine wpAnyH_take (i := 23) (oi := ⟨some 96, _, _, _, _, _⟩) (v := .bool true) rfl (by kernel_rfl) (by kernel_rfl) (by kernel_rfl) (fun c a w h => h) (Or.inl ⟨by rfl, fun w _ => rfl⟩) ⟨hB6, hC6⟩ ?_
          simp only [Act.put, List.setIfInBounds_toArray, List.set_cons_zero, List.set_cons_succ]
          refine wpAnyH_take (i := 24) (oi := ⟨some 6, _, _, _, _, _⟩) (v := .bool true) rfl (by kernel_rfl) (by kernel_rfl) (by kernel_rfl) (fun c a w h => h) (Or.inl ⟨by rfl, fun w _ => rfl⟩) ⟨hB6, hC6⟩ ?_
          simp only [Act.put, List.setIfInBounds_toArray, List.set_cons_zero, List.set_cons_succ]
          refine wpAnyH_done (by kernel_rfl) ?_ _
          refine hK _ _ ?_
          clear hK K
          go_wp2_with fail
          go_ret
          exact ⟨rfl, hbe6⟩
end Go.Proofs.Ytbjcjddaaegheaa
