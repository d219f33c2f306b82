/- BlockLast: read behind another first number a block is the same but for its own. -/
import Derived.Test.YtbjcjddaaegheaaCut
import Derived.Test.YtbjcjddaaegheaaEqArr
import Derived.Test.YtbjcjddaaegheaaKnown
import Derived.Test.YtbjcjddaaegheaaIsRow
namespace Go.Proofs.Ytbjcjddaaegheaa
open Go.RowKit

theorem Reads.off {w w' : World} {A : Option Addr} {n : Nat} {vs : List Int} (h : Reads w w.heap.size 1 A n (bytesV vs)) {g : Nat} {t : TypeId} {cs : Array Value} (hB : Blk w g t cs) (hno : ∀ (i : Nat) x, cs[i]? ≠ some (.int .u8 x)) (hg : w.grownBy w' (some g)) : Reads w' w'.heap.size 1 A n (bytesV vs) := by
  obtain ⟨h2, h3⟩ := h
  refine ⟨h2, fun hn => ?_⟩
  obtain ⟨ad, e, hb, hc⟩ := h3 hn
  refine ⟨ad, e, Nat.lt_of_lt_of_le hb hg.size, fun j u hu => ?_⟩
  rw [← hc j u hu]
  refine World.cell?_of_block (hg.block _ (by rw [block_of_add]; exact hb) fun e' => ?_)
  injection e' with e'
  obtain ⟨i, hi⟩ := cell_in_blk hB e' (hc j u hu)
  rw [bytesV, List.getElem?_map] at hu
  obtain ⟨x, _, rfl⟩ := Option.map_eq_some_iff.1 hu
  exact hno i x hi
theorem bitsS_len (part : Int) {z : List Int} {last : Int} (hz : Zigged z) (l0 : -1024 ≤ last) (l1 : last ≤ 1023) : (bitsS (stdP part) z last).length ≤ 5000 := by
  have hs := groups_sane (codesF_fits (dcC (stdP part)) (stdV 0 (stdP part)) (goodDC part).len) (codesF_fits (acC (stdP part)) (stdV 1 (stdP part)) (goodAC part).len) hz l0 l1
  have h1 := codesB_le _ hs
  have h2 := (groups_len (fd := codesF (dcC (stdP part)) (stdV 0 (stdP part))) (fa := codesF (acC (stdP part)) (stdV 1 (stdP part))) (last := last) hz.len).1
  unfold bitsS
  rw [packB_length]
  show ((codesB (groupsS (codesF (dcC (stdP part)) (stdV 0 (stdP part))) (codesF (acC (stdP part)) (stdV 1 (stdP part))) z last).flatten).length + 7) / 8 ≤ 5000
  omega
theorem bitsS_bytes (p : Nat) (z : List Int) (last : Int) : AreBytes (bitsS p z last) := padded_bytes _ _
theorem bread_std (part : Int) (A : Option Addr) (c : Nat) (bs : List Int) (at_ last : Int) (dc ac : Array Value) (w : World) (hb : AreBytes bs) (hr : Reads w w.heap.size 1 A bs.length (bytesV bs))
    (hl : bs.length ≤ 140737488355328) (a0 : -9223372036854775808 ≤ at_) (a1 : at_ ≤ 9223372036854775807) (l0 : -9223372036854775808 ≤ last) (l1 : last ≤ 9223372036854775807)
    (hdt : TabAt w dc (dcC (stdP part)) (stdV 0 (stdP part))) (hat : TabAt w ac (acC (stdP part)) (stdV 1 (stdP part))) (R : Option (List Int × Int)) (hR : blockRead bs at_ last (dcC (stdP part)) (stdV 0 (stdP part)) (acC (stdP part)) (stdV 1 (stdP part)) = R) :
    Calls Try.prog 18 #[.slice A bs.length c, .int .i64 at_, .int .i64 last, .agg dc, .agg ac] w fun e w' => e = .returned (readV R) ∧ Below w.heap.size w w' := by
  have := bread_at A c bs.length bs at_ last dc ac _ _ _ _ w rfl hb hr hl a0 a1 l0 l1 (goodDC part) hdt (goodAC part) hat
  rw [hR] at this
  exact this

set_option maxRecDepth 100000 in
set_option maxHeartbeats 4000000 in
theorem last_any (A : Option Addr) (c len : Nat) (bs : List Int) (k a b : Int) (W : World) (hlen : bs.length = len) (hb : AreBytes bs) (hr : Reads W W.heap.size 1 A len (bytesV bs)) (hl : len ≤ 9223372036854775807)
    (k0 : 0 ≤ k) (k1 : k ≤ 255) (a0 : -128 ≤ a) (a1 : a ≤ 127) (b0 : -128 ≤ b) (b1 : b ≤ 127) :
    Calls Try.prog 6 #[.slice A len c, .int .u8 k, .int .i8 a, .int .i8 b] W fun e w' => e = .returned (.bool true) ∧ Below W.heap.size W w' := by
  have KZ := Lib.hid (zig_any W.heap.size A c len bs k W hlen hb (Nat.le_refl _) hr (by omega) k0 k1)
  have KT := Lib.hid (tables_any (k % 2))
  have hz27 := zero27
  have hz33 := zero33
  have hs0 : (tabCells (List.replicate 16 0) (.slice none 0 0)).size = 17 := tabCells_size _ _ rfl
  have HNO := Lib.hid tab_noU8
  obtain ⟨t0, ht0⟩ : ∃ t0, t0 = tabCells (List.replicate 16 0) (.slice none 0 0) := ⟨_, rfl⟩
  rw [← ht0] at hz27 hs0 HNO
  have HS0 := Lib.hid hs0
  obtain ⟨z0, hz0⟩ : ∃ z0, z0 = intsC (List.replicate 64 0) := ⟨_, rfl⟩
  have hzs : z0.size = 64 := by rw [hz0, intsC_size]; simp
  rw [← hz0] at hz33
  have HZS := Lib.hid hzs
  clear ht0 hs0 hz0 hzs hr hb
  go_enter Try.func6, Try.ntmps6
  go_wp2_with fail
  go_at_call 12
  refine KZ.out.mono ?_
  rintro e w1 ⟨z, hz, rfl, hb1⟩
  clear KZ
  have hs33 := size33 z hz.len
  have hone := intsC_one z
  have hos : z0.size = (intsC z).size := by rw [HZS.out, intsC_size, hz.len]
  have hza : Zigged (z.set 0 a) := hz.set0 a (by omega) (by omega)
  have hzb : (z.set 0 a).set 0 (a + b) = z.set 0 (a + b) := by rw [List.set_set]
  have hg0 : (z.set 0 a).getD 0 0 = a := by rw [List.getD_eq_getElem?_getD, List.getElem?_set_self (by rw [hz.len]; omega)]; rfl
  have KB := Lib.hid (fun w => bits_any (z.set 0 a) 0 (k % 2) w hza (by omega) (by omega))
  have hread := bits_read (k % 2) hza (last := 0) (l2 := b) (by omega) (by omega) (by rw [hg0]; omega) (by rw [hg0]; omega) []
  rw [List.append_nil, hg0, Int.sub_zero, hzb] at hread
  have hL := bitsS_len (k % 2) hza (last := 0) (by omega) (by omega)
  obtain ⟨L, hLd⟩ : ∃ L, L = bitsS (stdP (k % 2)) (z.set 0 a) 0 := ⟨_, rfl⟩
  have hLb : AreBytes L := by rw [hLd]; exact bitsS_bytes _ _ _
  rw [← hLd] at KB hread hL
  obtain ⟨T, hT⟩ : ∃ T : Int, T = ((codesB (groupsS (dcF (stdP (k % 2))) (acF (stdP (k % 2))) (z.set 0 a) 0).flatten).length : Int) := ⟨_, rfl⟩
  rw [← hT] at hread
  have KR := Lib.hid (fun A' c' dc ac w hrw h1 h2 => bread_std (k % 2) A' c' L 0 b dc ac w hLb hrw (by omega) (by omega) (by omega) (by omega) (by omega) h1 h2 _ hread)
  simp only [readV] at KR
  have hzs2 : Zigged (z.set 0 (a + b)) := hz.set0 _ (by omega) (by omega)
  have hs33b := size33 _ hzs2.len
  have honeb := intsC_one (z.set 0 (a + b))
  have hosb : z0.size = (intsC (z.set 0 (a + b))).size := by rw [HZS.out, intsC_size, hzs2.len]
  have hs33a := size33 _ hza.len
  have hn1 := Blk.new w1 33 z0
  have hbe1 := hb1.alloc hb1.size (.cells z0 33)
  have hle1 := hb1.size
  have hc0 : ∀ w, Blk w w1.heap.size 33 (intsC z) → w.cell? ⟨w1.heap.size, 0, none⟩ = some (.int .i64 (z.getD 0 0)) := fun w h => by rw [h.cell]; exact intsC_at z 0 (by rw [hz.len]; omega)
  have hca : ∀ w, Blk w w1.heap.size 33 (intsC (z.set 0 a)) → w.cell? ⟨w1.heap.size, 0, none⟩ = some (.int .i64 a) := fun w h => by rw [h.cell, intsC_at _ 0 (by rw [hza.len]; omega), hg0]
  have HC0 := Lib.hid hc0
  have HCA := Lib.hid hca
  have HOS := Lib.hid hos
  have HOSB := Lib.hid hosb
  have HEQ : Hid (∀ (ac : Act) (w : World), ac.eval (.tmp 55) = .agg (intsC (z.set 0 (a + b))) → ac.eval (.tmp 56) = .agg (intsC (z.set 0 (a + b))) → ∀ o : Oper, o.op = .binOp .eql 33 (.tmp 55) (.tmp 56) 33 → (execOp ac.eval o).run Try.prog w = .ok (.value (.bool true)) w) := Lib.hid (fun ac w h2 h3 o h1 => by
    have := run_eql33 _ _ hzs2.len hzs2.len w ac.eval o (.tmp 55) (.tmp 56) h1 h2 h3
    rw [this]; simp)
  have hsetA : (intsC z).setIfInBounds 0 (.int .i64 a) = intsC (z.set 0 a) := intsC_set _ _ _
  have hsetB : (intsC (z.set 0 a)).setIfInBounds 0 (.int .i64 (a + b)) = intsC (z.set 0 (a + b)) := by rw [intsC_set, hzb]
  have HSA := Lib.hid hsetA
  have HSB := Lib.hid hsetB
  obtain ⟨cz, hcz⟩ : ∃ x, x = intsC z := ⟨_, rfl⟩
  obtain ⟨ca, hcaa⟩ : ∃ x, x = intsC (z.set 0 a) := ⟨_, rfl⟩
  obtain ⟨cb, hcb⟩ : ∃ x, x = intsC (z.set 0 (a + b)) := ⟨_, rfl⟩
  rw [← hcz] at hs33 hone HOS HC0 HSA ⊢
  rw [← hcaa] at HCA HSA HSB KB hs33a
  rw [← hcb] at KR HEQ hs33b honeb HOSB HSB
  clear hos hosb hc0 hca hsetA hsetB hread hcz hcaa hcb hT hLd hg0 hzb hz hza hzs2 hb1
  go_wp2_with (first | (refine wpList_store_blk rfl 33 (.tmp 9) (.tmp 18) rfl w1.heap.size rfl 33 z0 cz rfl hn1 hs33 HOS.out hone ?_; intro w2 hB2 hg2 hs2; clear hs2; have hbe2 := hbe1.grown hg2 (by simp; omega) (fun k e => by cases e; exact hle1); have hk2 := HC0.out _ hB2; have hf2 := hB2.frozen 0; have hB3 := hB2.set_ 0 (.int .i64 a); rw [HSA.out] at hB3; have hbe3 := hbe2.setCell (p := ⟨w1.heap.size, 0, none⟩) hle1 (.int .i64 a)) | (refine wpList_load_blk rfl 33 (.tmp 9) rfl w1.heap.size rfl 33 _ _ hB3 Try.underlying33 rfl hs33a ?_))
  go_at_call 11
  clear hn1 hbe1 hg2 hbe2 hB2 hk2 hf2
  generalize w2.setCell ⟨w1.heap.size, 0, none⟩ (.int .i64 a) = w3 at *
  refine (KB.out _).mono ?_
  rintro e w4 ⟨v, rfl, hown, hb4⟩
  have hB4 := hB3.below hb4 hB3.lt
  have hbe4 := hbe3.trans (hb4.mono hbe3.size)
  clear hB3 hbe3 KB
  go_wp2_with fail
  go_at_call 9
  refine (KT.out _).mono ?_
  rintro e w5 ⟨dc, ac, rfl, htd, hta, hb5⟩
  have hB5 := hB4.below hb5 hB4.lt
  have hbe5 := hbe4.trans (hb5.mono hbe4.size)
  have hown5 := own_below hown hb5 (Nat.le_refl _)
  obtain ⟨AL, cL, rfl, hrL⟩ := own_form hown5
  clear hB4 hbe4 hown hb5
  have sd := size27 (htd.size (goodDC _))
  have sa := size27 (hta.size (goodAC _))
  have one1 := htd.one
  have one2 := hta.one
  have ED := Lib.hid (show t0.size = dc.size by rw [HS0.out, htd.size (goodDC _)])
  have EA := Lib.hid (show t0.size = ac.size by rw [HS0.out, hta.size (goodAC _)])
  have hB6 := (hB5.alloc (.cells t0 27)).alloc (.cells t0 27)
  have hD6 := (Blk.new w5 27 t0).alloc (.cells t0 27)
  have hA6 := Blk.new (w5.alloc (.cells t0 27)) 27 t0
  rw [World.size_alloc] at hA6
  have hbs : Below w5.heap.size w5 ((w5.alloc (.cells t0 27)).alloc (.cells t0 27)) := ((Below.refl _ _).alloc (Nat.le_refl _) _).alloc (by simp) _
  have htd6 := htd.below hbs
  have hta6 := hta.below hbs
  have hrL6 := (hrL.below hbs).more hbs.size
  have hbe6 := hbe5.trans (hbs.mono hbe5.size)
  have hg5 := hbe5.size
  have hlt5 := hB5.lt
  clear htd hta hB5 hbe5 hbs hrL hown5
  generalize hgg : w1.heap.size = g at *
  clear hgg
  go_wp2_with (first | (refine wpList_store_blk rfl 27 (.tmp 11) (.tmp 32) rfl w5.heap.size rfl 27 t0 dc rfl hD6 sd ED.out one1 ?_; intro w7 hD7 hg7 hs7; clear hs7; have hA7 := hA6.grown hg7 (fun e => by injection e with e; omega); have hB7 := hB6.grown hg7 (fun e => by injection e with e; omega); have htd7 := htd6.off hD6 HNO.out hg7; have hta7 := hta6.off hD6 HNO.out hg7; have hrL7 := hrL6.off hD6 HNO.out hg7; have hbe7 := hbe6.grown hg7 hbe6.size (fun k e => by cases e; exact hg5)) | (refine wpList_store_blk rfl 27 (.tmp 12) (.tmp 33) rfl (w5.heap.size + 1) rfl 27 t0 ac rfl hA7 sa EA.out one2 ?_; intro w8 hA8 hg8 hs8; clear hs8; have hD8 := hD7.grown hg8 (fun e => by injection e with e; omega); have hB8 := hB7.grown hg8 (fun e => by injection e with e; omega); have htd8 := htd7.off hA7 HNO.out hg8; have hta8 := hta7.off hA7 HNO.out hg8; have hrL8 := hrL7.off hA7 HNO.out hg8; have hbe8 := hbe7.grown hg8 hbe7.size (fun k e => by cases e; omega)) | (refine wpList_load_blk rfl 27 (.tmp 11) rfl w5.heap.size rfl 27 _ _ hD8 Try.underlying27 rfl sd ?_) | (refine wpList_load_blk rfl 27 (.tmp 12) rfl (w5.heap.size + 1) rfl 27 _ _ hA8 Try.underlying27 rfl sa ?_))
  refine (KR.out _ _ _ _ _ hrL8 htd8 hta8).mono ?_
  rintro e w9 ⟨rfl, hb9⟩
  have hB9 := hB8.below hb9 hB8.lt
  have hbe9 := hbe8.trans (hb9.mono hbe8.size)
  have hn9 := Blk.new w9 33 z0
  have hB9' := hB9.alloc (.cells z0 33)
  have hbe9' := hbe9.alloc hbe9.size (.cells z0 33)
  have hlt9 := hB9.lt
  have hg9 := hbe9.size
  clear hrL8 htd8 hta8 hb9 hB8 hbe8 hB9 hbe9 hrL6 hrL7 htd6 htd7 hta6 hta7 hD6 hD7 hD8 hA6 hA7 hA8 hB6 hB7 hbe6 hbe7 hg7 hg8 KR sd sa one1 one2 ED EA
  go_wp2_with (refine wpList_store_blk rfl 33 (.tmp 13) (.tmp 41) rfl w9.heap.size rfl 33 z0 cb rfl hn9 hs33b HOSB.out honeb ?_; intro w10 hX10 hg10 hs10; clear hs10; have hB10 := hB9'.grown hg10 (fun e => by injection e with e; omega); have hbe10 := hbe9'.grown hg10 (by simp; omega) (fun k e => by cases e; exact hg9); have hk10 := HCA.out _ hB10; have hf10 := hB10.frozen 0)
  go_at_call 8
  have hB11 := hB10.set_ 0 (.int .i64 (a + b))
  rw [HSB.out] at hB11
  have hX11 := hX10.far (p := ⟨g, 0, none⟩) (by simp; omega) (.int .i64 (a + b))
  have hbe11 := hbe10.setCell (p := ⟨g, 0, none⟩) hle1 (.int .i64 (a + b))
  clear hn9 hB9' hbe9' hg10 hB10 hbe10 hk10 hf10 hX10
  generalize w10.setCell ⟨g, 0, none⟩ (.int .i64 (a + b)) = w11 at *
  refine (known_any _).mono ?_
  rintro e w12 ⟨rfl, hb12⟩
  have hB12 := hB11.below hb12 hB11.lt
  have hX12 := hX11.below hb12 hX11.lt
  have hbe12 := hbe11.trans (hb12.mono hbe11.size)
  clear hB11 hX11 hbe11 hb12
  go_wp2_with (first | (refine wpList_load_blk_want rfl 33 (.tmp 13) rfl w9.heap.size rfl 33 _ _ hX12 Try.underlying33 rfl hs33b ?_) | (refine wpList_load_blk_want rfl 33 (.tmp 9) rfl g rfl 33 _ _ hB12 Try.underlying33 rfl hs33b ?_) | (refine wpList_ran_want rfl _ (HEQ.out _ _ rfl rfl _ rfl) ?_))
  go_ret
  exact ⟨rfl, hbe12⟩
theorem bounds_i8 {n : Int} (h : (Lit.int .i8 n).wf = true) : -128 ≤ n ∧ n ≤ 127 := by
  simp [Lit.wf, IntKind.min, IntKind.max, IntKind.signed, IntKind.bits] at h; omega
theorem last_walk (A : Option Addr) (len cap : Nat) (zs : List Int) (k a b : Int) (W : World) (h : IsRow .u8 W A len cap zs) (hk : (Lit.int .u8 k).wf = true) (ha : (Lit.int .i8 a).wf = true) (hb : (Lit.int .i8 b).wf = true) :
    Calls Try.prog 6 #[.slice A len cap, .int .u8 k, .int .i8 a, .int .i8 b] W fun e w' => e = .returned (.bool true) ∧ Below W.heap.size W w' := by
  obtain ⟨bs, h1, h2, h3, h4, h5⟩ := row_reads h
  have := bounds_u8 hk
  have := bounds_i8 ha
  have := bounds_i8 hb
  exact last_any A cap len bs k a b W h1 h4 h5 (by unfold maxLen at h3; omega) (by omega) (by omega) (by omega) (by omega) (by omega) (by omega)
end Go.Proofs.Ytbjcjddaaegheaa
