/- BlockBack: whatever its numbers, a block is read as it was, wherever its bits lie. -/
import Derived.Test.YtbjcjddaaegheaaCutW
namespace Go.Proofs.Ytbjcjddaaegheaa
open Go.RowKit

def sumN : List (Int × Int) → Int
  | [] => 0
  | c :: t => c.1 + sumN t
theorem sumN_append (a b : List (Int × Int)) : sumN (a ++ b) = sumN a + sumN b := by
  induction a with
  | nil => simp [sumN]
  | cons c t ih => simp only [List.cons_append, sumN, ih]; omega
theorem sumN_codes (cs : List (Int × Int)) (h : Sane cs) : ((codesB cs).length : Int) = sumN cs := by
  induction cs with
  | nil => rfl
  | cons c t ih =>
    have h1 := h c (by simp)
    have h2 := ih (fun d hd => h d (by simp [hd]))
    rw [codesB_cons, List.length_append, sumN, ← h2, codeB, topBits_length]
    omega
theorem sumN_bd (cs : List (Int × Int)) (h : Sane cs) : 0 ≤ sumN cs ∧ sumN cs ≤ 32 * cs.length := by
  have h1 := sumN_codes cs h
  have h2 := codesB_le cs h
  omega
theorem sumN_take (cs : List (Int × Int)) (j : Nat) (c : Int × Int) (h : cs[j]? = some c) : sumN (cs.take (j + 1)) = sumN (cs.take j) + c.1 := by
  rw [List.take_add_one, h, sumN_append]
  simp [sumN]
theorem sane_append {a b : List (Int × Int)} (ha : Sane a) (hb : Sane b) : Sane (a ++ b) := fun c hc => by
  rcases List.mem_append.1 hc with h | h
  · exact ha c h
  · exact hb c h
/-- what Read says of a block's bits behind others -/
theorem bits_read_at (part : Int) {z : List Int} (hz : Zigged z) {last : Int} (l0 : -1024 ≤ last) (l1 : last ≤ 1023) (X : List Bool) :
    blockRead (packB (X ++ codesB (groupsS (dcF (stdP part)) (acF (stdP part)) z last).flatten)) X.length last (dcC (stdP part)) (stdV 0 (stdP part)) (acC (stdP part)) (stdV 1 (stdP part)) =
      some (z, (((X ++ codesB (groupsS (dcF (stdP part)) (acF (stdP part)) z last).flatten).length : Nat) : Int)) := by
  have hp := stdP_01 part
  obtain ⟨f0, f1⟩ := hz.first
  unfold blockRead
  rw [if_neg (by rw [show dcC (stdP part) = natsI (stdC 0 (stdP part)) from rfl, show acC (stdP part) = natsI (stdC 1 (stdP part)) from rfl, std_check 0 _ (.inl rfl) hp, std_check 1 _ (.inr rfl) hp]; simp)]
  have h := holds_pack X (codesB (groupsS (dcF (stdP part)) (acF (stdP part)) z last).flatten) []
  rw [List.append_nil] at h
  have := read_back (dcF_full _ hp) (acF_full _ hp) (l2 := last) hz l0 l1 (by omega) (by omega) h
  rw [show z.getD 0 0 - last + last = z.getD 0 0 by omega, set_getD] at this
  rw [List.length_append]
  exact this
theorem groups_ge {fd fa : Nat → Nat × Nat} {z : List Int} {last : Int} : 1 ≤ (groupsS fd fa z last).length := by unfold groupsS; simp

set_option maxRecDepth 100000 in
set_option maxHeartbeats 20000000 in
theorem bback_any (A : Option Addr) (c len : Nat) (bs : List Int) (k last : Int) (W : World) (hlen : bs.length = len) (hb : AreBytes bs) (hr : Reads W W.heap.size 1 A len (bytesV bs)) (hl : len ≤ 9223372036854775807)
    (k0 : 0 ≤ k) (k1 : k ≤ 255) (l0 : -32768 ≤ last) (l1 : last ≤ 32767) :
    Calls Try.prog 4 #[.slice A len c, .int .u8 k, .int .i16 last] W fun e w' => e = .returned (.bool true) ∧ Below W.heap.size W w' := by
  have KZ := Lib.hid (zig_any W.heap.size A c len bs k W hlen hb (Nat.le_refl _) hr (by omega) k0 k1)
  have KT := Lib.hid (tables_any (k % 2))
  have hgd := goodDC (k % 2)
  have hga := goodAC (k % 2)
  obtain ⟨bf, hbf⟩ : ∃ bf, bf = max (-1024) (min last 1023) := ⟨_, rfl⟩
  have bf0 : -1024 ≤ bf := by omega
  have bf1 : bf ≤ 1023 := by omega
  have hz27 := zero27
  have hz33 := zero33
  have hs0 : (tabCells (List.replicate 16 0) (.slice none 0 0)).size = 17 := tabCells_size _ _ rfl
  have HNO := Lib.hid tab_noU8
  obtain ⟨t0, ht0⟩ : ∃ t0, t0 = tabCells (List.replicate 16 0) (.slice none 0 0) := ⟨_, rfl⟩
  rw [← ht0] at hz27 hs0 HNO
  have HS0 := Lib.hid hs0
  obtain ⟨z0, hz0⟩ : ∃ z0, z0 = intsC (List.replicate 64 0) := ⟨_, rfl⟩
  have hzs : z0.size = 64 := by rw [hz0, intsC_size]; simp
  rw [← hz0] at hz33
  have HZS := Lib.hid hzs
  have HBF := Lib.hid hbf
  have HGD := Lib.hid hgd
  have HGA := Lib.hid hga
  clear ht0 hs0 hz0 hzs hr hb hbf hgd hga
  go_enter Try.func4, Try.ntmps4
  go_wp2_with fail
  go_at_call 12
  refine KZ.out.mono ?_
  rintro e w1 ⟨z, hz, rfl, hb1⟩
  clear KZ
  have hs33 := size33 z hz.len
  have hone := intsC_one z
  have hos : z0.size = (intsC z).size := by rw [HZS.out, intsC_size, hz.len]
  have KG := Lib.hid (fun w => groups_any z bf (dcF (stdP (k % 2))) (acF (stdP (k % 2))) w hz bf0 bf1)
  have KD : Hid (∀ (tc : Array Value) (w : World), TabAt w tc (dcC (stdP (k % 2))) (stdV 0 (stdP (k % 2))) → Calls Try.prog 16 #[.agg tc] w fun e w' => e = .returned (.agg (codeC (dcF (stdP (k % 2))))) ∧ Below w.heap.size w w') := Lib.hid (fun tc w => rcodes_at tc (dcC (stdP (k % 2))) (stdV 0 (stdP (k % 2))) w HGD.out)
  have KA : Hid (∀ (tc : Array Value) (w : World), TabAt w tc (acC (stdP (k % 2))) (stdV 1 (stdP (k % 2))) → Calls Try.prog 16 #[.agg tc] w fun e w' => e = .returned (.agg (codeC (acF (stdP (k % 2))))) ∧ Below w.heap.size w w') := Lib.hid (fun tc w => rcodes_at tc (acC (stdP (k % 2))) (stdV 1 (stdP (k % 2))) w HGA.out)
  have hsane : Sane (groupsS (dcF (stdP (k % 2))) (acF (stdP (k % 2))) z bf).flatten := groups_sane (codesF_fits _ _ HGD.out.len) (codesF_fits _ _ HGA.out.len) hz bf0 bf1
  obtain ⟨hl1, hl2⟩ := groups_len (fd := dcF (stdP (k % 2))) (fa := acF (stdP (k % 2))) (last := bf) hz.len
  have hl3 := groups_ge (fd := dcF (stdP (k % 2))) (fa := acF (stdP (k % 2))) (z := z) (last := bf)
  obtain ⟨K11, hK11⟩ : ∃ x : Nat, (x : Int) = k % 11 := ⟨(k % 11).toNat, by omega⟩
  have hK10 : K11 ≤ 10 := by omega
  have hrd := bits_read_at (k % 2) hz bf0 bf1 (codeB ((K11 : Int), 5))
  have hX : (codeB ((K11 : Int), 5)).length = K11 := by simp [codeB, topBits_length]
  rw [hX] at hrd
  obtain ⟨G, hG⟩ : ∃ G, G = groupsS (dcF (stdP (k % 2))) (acF (stdP (k % 2))) z bf := ⟨_, rfl⟩
  rw [← hG] at KG hsane hl1 hl2 hl3 hrd
  have hq1 : Sane [((K11 : Int), 5)] := fun c hc => by
    obtain rfl := List.mem_singleton.1 hc
    simp only; omega
  obtain ⟨F, hF⟩ : ∃ F, F = [((K11 : Int), 5)] ++ G.flatten := ⟨_, rfl⟩
  have hFB : codesB F = codeB ((K11 : Int), 5) ++ codesB G.flatten := by rw [hF, codesB_append, codesB_cons]; simp [codesB]
  rw [← hFB] at hrd
  have hFs : Sane F := by rw [hF]; exact sane_append hq1 hsane
  have hFl : F.length ≤ 1001 := by rw [hF, List.length_append, List.length_singleton]; omega
  have hsum := sumN_codes F hFs
  obtain ⟨T, hT⟩ : ∃ T, T = (codesB F).length := ⟨_, rfl⟩
  rw [← hT] at hrd hsum
  have KP := Lib.hid (fun A c w => rpack_any A c F w (by omega) hFs)
  obtain ⟨B, hBb⟩ : ∃ B, B = packB (codesB F) := ⟨_, rfl⟩
  have hBby : AreBytes B := by rw [hBb]; exact padded_bytes _ _
  have hBl : B.length ≤ 100000 := by
    rw [hBb, packB_length]
    have := codesB_le F hFs
    omega
  rw [← hBb] at hrd KP
  rw [← hT] at KP
  have KR := Lib.hid (fun A' c' dc ac w hrw h1 h2 => bread_std (k % 2) A' c' B (K11 : Int) bf dc ac w hBby hrw (by omega) (by omega) (by omega) (by omega) (by omega) h1 h2 _ hrd)
  simp only [readV] at KR
  have HEQ : Hid (∀ (ac : Act) (w : World), ac.eval (.tmp 103) = .agg (intsC z) → ac.eval (.tmp 104) = .agg (intsC z) → ∀ o : Oper, o.op = .binOp .eql 33 (.tmp 103) (.tmp 104) 33 → (execOp ac.eval o).run Try.prog w = .ok (.value (.bool true)) w) := Lib.hid (fun ac w h2 h3 o h1 => by
    have := run_eql33 _ _ hz.len hz.len w ac.eval o (.tmp 103) (.tmp 104) h1 h2 h3
    rw [this]; simp)
  have HOS := Lib.hid hos
  have HK11 := Lib.hid hK11
  have HF := Lib.hid hF
  have HSANE := Lib.hid hsane
  have HSUM := Lib.hid hsum
  have HFL := Lib.hid hFl
  have HQ1 := Lib.hid hq1
  obtain ⟨cz, hcz⟩ : ∃ x, x = intsC z := ⟨_, rfl⟩
  obtain ⟨cd, hcd⟩ : ∃ x, x = codeC (dcF (stdP (k % 2))) := ⟨_, rfl⟩
  obtain ⟨ca, hca⟩ : ∃ x, x = codeC (acF (stdP (k % 2))) := ⟨_, rfl⟩
  rw [← hcz] at hs33 hone HOS HEQ KG KR ⊢
  rw [← hcd] at KD KG
  rw [← hca] at KA KG
  have hn1 := Blk.new w1 33 z0
  have hbe1 := hb1.alloc hb1.size (.cells z0 33)
  have hle1 := hb1.size
  have hbfe : max (-1024) (min last 1023) = bf := HBF.out.symm
  have hlt1 : w1.heap.size < (w1.alloc (.cells z0 33)).heap.size := by simp
  clear hos hcz hcd hca hG hX hFB hFs hF hT hBb hrd hsum hsane hK11 hFl hq1 hz hb1
  go_wp2_with (refine wpList_store_blk rfl 33 (.tmp 7) (.tmp 23) rfl w1.heap.size rfl 33 z0 cz rfl hn1 hs33 HOS.out hone ?_; intro w3 hB3 hg3 hs3; clear hs3; have hbe3 := hbe1.grown hg3 (by simp; omega) (fun k e => by cases e; exact hle1))
  go_at_call 9
  refine (KT.out _).mono ?_
  rintro e w5 ⟨dc, ac, rfl, htd, hta, hb5⟩
  have hB5 := hB3.below hb5 hB3.lt
  have hbe5 := hbe3.trans (hb5.mono hbe3.size)
  clear hB3 hbe3 hb5 hg3 hn1 hbe1 hlt1
  have sd := size27 (htd.size HGD.out)
  have sa := size27 (hta.size HGA.out)
  have one1 := htd.one
  have one2 := hta.one
  have ED := Lib.hid (show t0.size = dc.size by rw [HS0.out, htd.size HGD.out])
  have EA := Lib.hid (show t0.size = ac.size by rw [HS0.out, hta.size HGA.out])
  have hB6 := (hB5.alloc (.cells t0 27)).alloc (.cells t0 27)
  have hD6 := (Blk.new w5 27 t0).alloc (.cells t0 27)
  have hA6 := Blk.new (w5.alloc (.cells t0 27)) 27 t0
  rw [World.size_alloc] at hA6
  have hbs : Below w5.heap.size w5 ((w5.alloc (.cells t0 27)).alloc (.cells t0 27)) := ((Below.refl _ _).alloc (Nat.le_refl _) _).alloc (by simp) _
  have htd6 := htd.below hbs
  have hta6 := hta.below hbs
  have hbe6 := hbe5.trans (hbs.mono hbe5.size)
  have hg5 := hbe5.size
  have hlt5 := hB5.lt
  clear htd hta hB5 hbe5 hbs
  generalize hgg : w1.heap.size = g at *
  clear hgg
  go_wp2_with (first | (refine wpList_store_blk rfl 27 (.tmp 9) (.tmp 33) rfl w5.heap.size rfl 27 t0 dc rfl hD6 sd ED.out one1 ?_; intro w7 hD7 hg7 hs7; clear hs7; have hA7 := hA6.grown hg7 (fun e => by injection e with e; omega); have hB7 := hB6.grown hg7 (fun e => by injection e with e; omega); have htd7 := htd6.off hD6 HNO.out hg7; have hta7 := hta6.off hD6 HNO.out hg7; have hbe7 := hbe6.grown hg7 hbe6.size (fun k e => by cases e; exact hg5)) | (refine wpList_store_blk rfl 27 (.tmp 10) (.tmp 34) rfl (w5.heap.size + 1) rfl 27 t0 ac rfl hA7 sa EA.out one2 ?_; intro w8 hA8 hg8 hs8; clear hs8; have hD8 := hD7.grown hg8 (fun e => by injection e with e; omega); have hB8 := hB7.grown hg8 (fun e => by injection e with e; omega); have htd8 := htd7.off hA7 HNO.out hg8; have hta8 := hta7.off hA7 HNO.out hg8; have hbe8 := hbe7.grown hg8 hbe7.size (fun k e => by cases e; omega); clear htd6 htd7 hta6 hta7 hD6 hD7 hA6 hA7 hB6 hB7 hbe6 hbe7 hg7 hg8))
  rename_i K hK
  simp only [Act.put]
  replace hbe8 := hbe8.drew
  have htd4 : TabAt w8.drew dc (dcC (stdP (k % 2))) (stdV 0 (stdP (k % 2))) := htd8
  have hta4 : TabAt w8.drew ac (acC (stdP (k % 2))) (stdV 1 (stdP (k % 2))) := hta8
  have hB4 := hB8.drew
  have hD4 := hD8.drew
  have hA4 := hA8.drew
  clear hB8 hD8 hA8 htd8 hta8
  refine wp_region_noPanic ?_
  refine wp_region_held (S := fun w => Blk w g 33 cz ∧ Blk w w5.heap.size 27 dc ∧ Blk w (w5.heap.size + 1) 27 ac) (by kernel_rfl) ?_
  show wpAnyH _ _ _ _ _ _ _ _ w8.drew
  generalize w8.drew = w9 at *
  refine wpAnyH_take (i := 0) (oi := ⟨some 35, _, _, _, _, _⟩) (v := .agg cz) rfl (by kernel_rfl) (by kernel_rfl) (by kernel_rfl) (fun c a w h => h) (yieldsIf_load_blk (by rfl) 33 (.tmp 7) rfl g rfl 33 cz _ (fun w h => h.1) Try.underlying33 rfl hs33) ⟨hB4, hD4, hA4⟩ ?_
  simp only [Act.put, List.setIfInBounds_toArray, List.set_cons_zero, List.set_cons_succ]
  refine wpAnyH_take (i := 1) (oi := ⟨some 36, _, _, _, _, _⟩) (v := .int .i64 bf) rfl (by kernel_rfl) (by kernel_rfl) (by kernel_rfl) (fun c a w h => h) (Or.inl ⟨by rfl, fun w _ => by kernel_rfl⟩) ⟨hB4, hD4, hA4⟩ ?_
  simp only [Act.put, List.setIfInBounds_toArray, List.set_cons_zero, List.set_cons_succ]
  refine wpAnyH_take (i := 2) (oi := ⟨some 37, _, _, _, _, _⟩) (v := .agg dc) rfl (by kernel_rfl) (by kernel_rfl) (by kernel_rfl) (fun c a w h => h) (yieldsIf_load_blk (by rfl) 27 (.tmp 9) rfl w5.heap.size rfl 27 dc _ (fun w h => h.2.1) Try.underlying27 rfl sd) ⟨hB4, hD4, hA4⟩ ?_
  simp only [Act.put, List.setIfInBounds_toArray, List.set_cons_zero, List.set_cons_succ]
  refine wpAnyH_take (i := 4) (oi := ⟨some 39, _, _, _, _, _⟩) (v := .agg ac) rfl (by kernel_rfl) (by kernel_rfl) (by kernel_rfl) (fun c a w h => h) (yieldsIf_load_blk (by rfl) 27 (.tmp 10) rfl (w5.heap.size + 1) rfl 27 ac _ (fun w h => h.2.2) Try.underlying27 rfl sa) ⟨hB4, hD4, hA4⟩ ?_
  simp only [Act.put, List.setIfInBounds_toArray, List.set_cons_zero, List.set_cons_succ]
  refine wpAnyH_ready (rs := [3]) (by kernel_rfl) (by simp) ?_
  refine AllReadyH.cons rfl (fun K' hK' => ?_) AllReadyH.nil
  go_simp
  refine (KD.out _ _ htd4).mono ?_
  rintro e w10 ⟨rfl, hb10⟩
  have hB10 := hB4.below hb10 hB4.lt
  have hD10 := hD4.below hb10 hD4.lt
  have hA10 := hA4.below hb10 hA4.lt
  have htd10 := htd4.below hb10
  have hta10 := hta4.below hb10
  have hbe10 := hbe8.trans (hb10.mono hbe8.size)
  refine hK'.out _ _ ⟨hB10, hD10, hA10⟩ (fun hS5 => ?_)
  clear hK' K' hS5 hb10 hB4 hD4 hA4 htd4 hta4 hbe8
  refine wpAnyH_ready (rs := [5]) (by kernel_rfl) (by simp) ?_
  refine AllReadyH.cons rfl (fun K' hK' => ?_) AllReadyH.nil
  go_simp
  refine (KA.out _ _ hta10).mono ?_
  rintro e w11 ⟨rfl, hb11⟩
  have hB11 := hB10.below hb11 hB10.lt
  have hD11 := hD10.below hb11 hD10.lt
  have hA11 := hA10.below hb11 hA10.lt
  have htd11 := htd10.below hb11
  have hta11 := hta10.below hb11
  have hbe11 := hbe10.trans (hb11.mono hbe10.size)
  refine hK'.out _ _ ⟨hB11, hD11, hA11⟩ (fun hS5 => ?_)
  clear hK' K' hS5 hb11 hB10 hD10 hA10 htd10 hta10 hbe10
  refine wpAnyH_ready (rs := [6]) (by kernel_rfl) (by simp) ?_
  refine AllReadyH.cons rfl (fun K' hK' => ?_) AllReadyH.nil
  go_simp
  refine (KG.out _).mono ?_
  rintro e w12 ⟨v11, rfl, hro, hb12⟩
  have hB12 := hB11.below hb12 hB11.lt
  have hD12 := hD11.below hb12 hD11.lt
  have hA12 := hA11.below hb12 hA11.lt
  have htd12 := htd11.below hb12
  have hta12 := hta11.below hb12
  have hbe12 := hbe11.trans (hb12.mono hbe11.size)
  refine hK'.out _ _ ⟨hB12, hD12, hA12⟩ (fun hS5 => ?_)
  clear hK' K' hS5 hb12 hB11 hD11 hA11 htd11 hta11 hbe11
  refine wpAnyH_take (i := 7) (oi := ⟨some 11, _, _, _, _, _⟩) (v := v11) rfl (by kernel_rfl) (by kernel_rfl) (by kernel_rfl) (fun c a w h => h) (Or.inl ⟨by rfl, fun w _ => rfl⟩) ⟨hB12, hD12, hA12⟩ ?_
  refine wpAnyH_done (by kernel_rfl) ?_ _
  refine hK _ _ ?_
  clear hK K
  simp only [Act.put, List.setIfInBounds_toArray, List.set_cons_zero, List.set_cons_succ]
  have hB12' := hB12
  have hB13 := hB12.alloc (.cells (rowCells [((K11 : Int), (5 : Int))]).toArray 42)
  have hD13 := hD12.alloc (.cells (rowCells [((K11 : Int), (5 : Int))]).toArray 42)
  have hA13 := hA12.alloc (.cells (rowCells [((K11 : Int), (5 : Int))]).toArray 42)
  have hb13 : Below w12.heap.size w12 (w12.alloc (.cells (rowCells [((K11 : Int), (5 : Int))]).toArray 42)) := (Below.refl _ _).alloc (Nat.le_refl _) _
  have htd13 := htd12.below hb13
  have hta13 := hta12.below hb13
  have hbe13 := hbe12.trans (hb13.mono hbe12.size)
  have hn13 := own_new (size := 2) (base := w12.heap.size) (m := 1) (Blk.new w12 42 (rowCells [((K11 : Int), (5 : Int))]).toArray) (Nat.le_refl _) (by decide) rfl
  have hsz13 : w12.heap.size ≤ (w12.alloc (.cells (rowCells [((K11 : Int), (5 : Int))]).toArray 42)).heap.size := by simp
  obtain ⟨w13, hw13⟩ : ∃ w13, w13 = w12.alloc (.cells (rowCells [((K11 : Int), (5 : Int))]).toArray 42) := ⟨_, rfl⟩
  rw [← hw13] at hB13 hD13 hA13 htd13 hta13 hbe13 hb13 hn13 hsz13
  have HW13 := Lib.hid hw13
  have hke : k % 11 = (K11 : Int) := HK11.out.symm
  clear hw13 hbe13
  go_wp2_with (first | (rw [hke]; refine Great.wpList_buildSliceTo rfl 45 42 1 _ rfl w12.heap.size rfl (some 46) rfl Try.underlying45 (rowCells [((K11 : Int), (5 : Int))]).toArray (by kernel_rfl) ?_; rw [← HW13.out]))
  obtain ⟨hs, hhl, hho, hhi⟩ := hro
  obtain ⟨A11, c11, rfl, hr11⟩ := own_form hho
  have HI := Lib.hid hhi
  clear hho hhi
  go_loopw [12, 13, 14] (fun v12 v13 v14 (w : World) => ∃ (i : Nat) (q : List (Int × Int)), i ≤ G.length ∧ v14 = .int .i64 i ∧ q = [((K11 : Int), (5 : Int))] ++ (G.take i).flatten ∧ v13 = .int .i64 (sumN q) ∧ w.ownsRow w12.heap.size 42 2 v12 q.length (rowCells q) ∧ Below w12.heap.size w12 w) (fun _ _ v14 _ => G.length - (intOf v14).toNat)
  case atStart => exact ⟨0, [((K11 : Int), (5 : Int))], by omega, rfl, by simp, by simp [sumN], hn13, hb13⟩
  case round =>
    clear hn13 hb13 hB13 hD13 hA13 htd13 hta13
    obtain ⟨i, q, hi, rfl, hq, rfl, hown, hbw⟩ := hrel
    by_cases hlt : i < G.length
    · obtain ⟨r, hr⟩ : ∃ r, G[i]? = some r := ⟨_, List.getElem?_eq_getElem hlt⟩
      obtain ⟨ad, u, rfl, hadb, hu, hc⟩ := (hr11.below hbw).at_ hlt
      have hin := own_below (HI.out i u r hu hr) hbw (Nat.le_refl _)
      obtain ⟨Ar, cr, rfl, hrr⟩ := own_form hin
      have htk : [((K11 : Int), (5 : Int))] ++ (G.take (i + 1)).flatten = q ++ r := by
        rw [hq, List.take_add_one, hr, List.flatten_append]; simp
      have hsqr : Sane (q ++ r) := by
        rw [← htk]
        refine sane_append HQ1.out fun c hc => HSANE.out c ?_
        obtain ⟨x, hx, hcx⟩ := List.mem_flatten.1 hc
        exact List.mem_flatten.2 ⟨x, List.mem_of_mem_take hx, hcx⟩
      have hlqr : q.length + r.length ≤ 1001 := by
        have e : F = (q ++ r) ++ (G.drop (i + 1)).flatten := by rw [← htk, List.append_assoc, ← List.flatten_append, List.take_append_drop, HF.out]
        have := HFL.out
        rw [e, List.length_append, List.length_append] at this
        omega
      have hsq : Sane q := fun c hc => hsqr c (by simp [hc])
      have hsr : Sane r := fun c hc => hsqr c (by simp [hc])
      obtain ⟨q0, q1⟩ := sumN_bd q hsq
      obtain ⟨S, hS⟩ : ∃ S, S = sumN q := ⟨_, rfl⟩
      rw [← hS] at q0 q1 ⊢
      have hsum2 : sumN (q ++ r) = S + sumN r := by rw [hS, sumN_append]
      have HOWNR : Hid (∀ w, Below w12.heap.size w12 w → Reads w w.heap.size 2 Ar r.length (rowCells r) ∧ w.cell? (ad.add i) = some (.slice Ar r.length cr)) := Lib.hid (fun w hbb => by
        have h1 := own_below (HI.out i _ r hu hr) hbb (Nat.le_refl _)
        refine ⟨Reads.of_own (c := cr) h1, ?_⟩
        obtain ⟨ad', u', e1, _, hu', hc'⟩ := (hr11.below hbb).at_ hlt
        injection e1 with e1
        subst e1
        rw [hu] at hu'
        injection hu' with hu'
        subst hu'
        exact hc')
      have HTK := Lib.hid htk
      have HSR := Lib.hid hsr
      have HSUM2 := Lib.hid hsum2
      clear hq hin hu hr htk hsqr hsq hsr hS hsum2
      go_wp2_with (refine append42r rfl (.tmp 56) (.tmp 60) rfl w12.heap.size u12 q.length q rfl hown wr.heap.size Ar r.length cr r rfl hrr (by omega) hbw.size ?_; intro v' w' hown3 hg3; have hbw3 := hbw.trans (below_own hown hg3 (Nat.le_refl _) hbw.size); obtain ⟨hrr3, hc3⟩ := HOWNR.out w' hbw3)
      go_loop [13, 15] (fun v13 v15 => ∃ j : Nat, j ≤ r.length ∧ v15 = .int .i64 j ∧ v13 = .int .i64 (S + sumN (r.take j))) (fun _ v15 => r.length - (intOf v15).toNat)
      case atStart => exact ⟨0, by omega, rfl, by simp [sumN]⟩
      case round =>
        obtain ⟨j, hj, rfl, rfl⟩ := hrel
        have htj : (r.take j).length ≤ 1001 := by rw [List.length_take]; omega
        obtain ⟨s0, s1⟩ := sumN_bd (r.take j) (fun c hc => HSR.out c (List.mem_of_mem_take hc))
        by_cases hjr : j < r.length
        · obtain ⟨⟨N, V⟩, hcd⟩ : ∃ cd, r[j]? = some cd := ⟨_, List.getElem?_eq_getElem hjr⟩
          obtain ⟨n0, n1, _, _⟩ := HSR.out _ (List.mem_of_getElem? hcd)
          simp only at n0 n1
          have hst := sumN_take r j _ hcd
          simp only at hst
          obtain ⟨adr, rfl, hbl, hcells⟩ := hrr3.2 (by omega)
          have c1 := hcells _ _ (rowCells_at r j _ hcd).1
          obtain ⟨s, hs'⟩ : ∃ s, s = sumN (r.take j) := ⟨_, rfl⟩
          rw [← hs'] at hst s0 s1 ⊢
          clear hcells hcd hs' hrr
          go_wp2_with fail
          go_round
          case rel => exact ⟨j + 1, by omega, by go_num, by rw [hst]; congr 1; omega⟩
          case measure => simp [intOf]; omega
        · obtain rfl : j = r.length := by omega
          rw [List.take_length] at s0 s1 ⊢
          go_wp2_with fail
          go_roundw
          case rel => exact ⟨i + 1, q ++ r, by omega, by go_num, HTK.out.symm, by rw [HSUM2.out], by rw [List.length_append]; exact hown3, hbw3⟩
          case measure => simp [intOf]; omega
    · obtain rfl : i = G.length := by omega
      rw [List.take_length, ← HF.out] at hq
      subst hq
      obtain ⟨A12, c12, rfl, hr12⟩ := own_form hown
      have hT := HSUM.out
      rw [← hT]
      have hB14 := hB12.below hbw hB12.lt
      have hD14 := hD12.below hbw hD12.lt
      have hA14 := hA12.below hbw hA12.lt
      have htd14 := htd12.below hbw
      have hta14 := hta12.below hbw
      have hbe14 := hbe12.trans (hbw.mono hbe12.size)
      have hk17 := Lib.hid (KP.out A12 c12 wr hr12)
      clear hB12 hD12 hA12 htd12 hta12 hbe12 hbw hown KP HI hr11 KG KD KA KT hT hB12'
      go_wp2_with fail
      go_at_call 17
      refine hk17.out.mono ?_
      rintro e w20 ⟨v16, rfl, hown20, hb20⟩
      have hB20 := hB14.below hb20 hB14.lt
      have hD20 := hD14.below hb20 hD14.lt
      have hA20 := hA14.below hb20 hA14.lt
      have htd20 := htd14.below hb20
      have hta20 := hta14.below hb20
      have hbe20 := hbe14.trans (hb20.mono hbe14.size)
      obtain ⟨A16, c16, rfl, hr16⟩ := own_form hown20
      clear hB14 hD14 hA14 htd14 hta14 hbe14 hb20 hk17 hown20
      go_wp2_with (first | (refine wpList_load_blk rfl 27 (.tmp 9) rfl w5.heap.size rfl 27 _ _ hD20 Try.underlying27 rfl sd ?_) | (refine wpList_load_blk rfl 27 (.tmp 10) rfl (w5.heap.size + 1) rfl 27 _ _ hA20 Try.underlying27 rfl sa ?_))
      go_at_call 18
      refine (KR.out _ _ _ _ _ hr16 htd20 hta20).mono ?_
      rintro e w21 ⟨rfl, hb21⟩
      have hB21 := hB20.below hb21 hB20.lt
      have hbe21 := hbe20.trans (hb21.mono hbe20.size)
      have hn21 := Blk.new w21 33 z0
      have hB21' := hB21.alloc (.cells z0 33)
      have hbe21' := hbe21.alloc hbe21.size (.cells z0 33)
      have hl21 := hB21.lt
      have hg21 := hbe21.size
      clear hB20 hD20 hA20 htd20 hta20 hbe20 hb21 hr16 KR
      go_wp2_with (refine wpList_store_blk rfl 33 (.tmp 18) (.tmp 95) rfl w21.heap.size rfl 33 z0 cz rfl hn21 hs33 HOS.out hone ?_; intro w22 hX22 hg22 hs22; clear hs22; have hB22 := hB21'.grown hg22 (fun e => by injection e with e; omega); have hbe22 := hbe21'.grown hg22 (by simp; omega) (fun k e => by cases e; exact hg21))
      go_at_call 8
      refine (known_any _).mono ?_
      rintro e w23 ⟨rfl, hb23⟩
      have hB23 := hB22.below hb23 hB22.lt
      have hX23 := hX22.below hb23 hX22.lt
      have hbe23 := hbe22.trans (hb23.mono hbe22.size)
      have hge : (1 : Int) ≤ (G.length : Int) := by omega
      clear hB22 hX22 hbe22 hb23
      go_wp2_with (first | (refine wpList_load_blk_want rfl 33 (.tmp 18) rfl w21.heap.size rfl 33 _ _ hX23 Try.underlying33 rfl hs33 ?_) | (refine wpList_load_blk_want rfl 33 (.tmp 7) rfl g rfl 33 _ _ hB23 Try.underlying33 rfl hs33 ?_) | (refine wpList_ran_want rfl _ (HEQ.out _ _ rfl rfl _ rfl) ?_))
      go_ret
      exact ⟨rfl, hbe23⟩
theorem bounds_i16 {n : Int} (h : (Lit.int .i16 n).wf = true) : -32768 ≤ n ∧ n ≤ 32767 := by
  simp [Lit.wf, IntKind.min, IntKind.max, IntKind.signed, IntKind.bits] at h; omega
theorem back_walk (A : Option Addr) (len cap : Nat) (zs : List Int) (k last : Int) (W : World) (h : IsRow .u8 W A len cap zs) (hk : (Lit.int .u8 k).wf = true) (hn : (Lit.int .i16 last).wf = true) :
    Calls Try.prog 4 #[.slice A len cap, .int .u8 k, .int .i16 last] W fun e w' => e = .returned (.bool true) ∧ Below W.heap.size W w' := by
  obtain ⟨bs, h1, h2, h3, hb, hr⟩ := row_reads h
  have := bounds_u8 hk
  have := bounds_i16 hn
  exact bback_any A cap len bs k last W h1 hb hr (by unfold maxLen at h3; omega) (by omega) (by omega) (by omega) (by omega)
end Go.Proofs.Ytbjcjddaaegheaa
