/- The reference's way back; the law's Row. -/
import Derived.Test.YtijnldbbibgjcaaDoorUnst
namespace Go.Proofs.YtijnldbbibgjcaaDoor
open Go.RowKit
open Go.Lib (numsL bytesOf HoldsBytes)

theorem runstuff_any (A : Option Addr) (c : Nat) (l : List UInt8) (W : World) (h : HoldsBytes W (.slice A l.length c) l) (hlen : l.length ≤ 1099511627776) :
    Calls Tryd.prog 17 #[.slice A l.length c] W fun e w' => ∃ v, e = .returned (.tuple #[v, .int .i64 (unst l).2]) ∧ HoldsBytes w' v (unst l).1 ∧ Below W.heap.size W w' := by
  obtain ⟨ii, hi, hz0, hz1, hz2⟩ := info_parts info5
  have hR := reads_of_holds h
  clear h
  obtain ⟨B, hB⟩ : ∃ B, B = W.heap.size := ⟨_, rfl⟩
  rw [← hB]
  rw [← hB] at hR
  obtain ⟨len, hl⟩ : ∃ len, len = l.length := ⟨_, rfl⟩
  rw [← hl]
  rw [← hl] at hR hlen
  go_enter Tryd.func17, Tryd.ntmps17
  go_wp2_with fail
  go_loopw [4, 5] (fun o k (w : World) => ∃ (i : Nat) (acc : List UInt8), i ≤ len ∧ acc.length ≤ i ∧ k = .int .i64 i ∧ w.ownsRow B 5 1 o acc.length (bytesV (numsL acc)) ∧ Below B W w ∧ acc ++ (unst (l.drop i)).1 = (unst l).1 ∧ i + (unst (l.drop i)).2 = (unst l).2) (fun _ k _ => len - (intOf k).toNat)
  case atStart => exact ⟨0, [], by omega, by simp, rfl, World.ownsRow_nil _ _ _ _, Below.refl _ _, rfl, by simp⟩
  case round =>
    obtain ⟨i, acc, hil, hai, rfl, hown, hbw, hp, hq⟩ := hrel
    have hBw : B ≤ wr.heap.size := by have := hbw.size; omega
    by_cases hlt : i < len
    · obtain ⟨ad, u, rfl, hadb, hx, hc⟩ := (hR.below hbw).at_ (k := i) hlt
      obtain ⟨x, hx', rfl⟩ := bytesV_at hx
      have hdr := drop_at l i x hx'
      have HP := Lib.hid hp
      have HQ := Lib.hid hq
      have HL := Lib.hid hl
      have HD := Lib.hid hdr
      clear hp hq hl hdr hx hx'
      have t0 : (0 : Int) ≤ (i : Int) := Int.natCast_nonneg _
      have t1 : (i : Int) < (len : Int) := by omega
      have hfar := own_far hown hadb
      obtain ⟨n, hn⟩ : ∃ n, n = acc.length := ⟨_, rfl⟩
      rw [← hn] at hown hai
      have HN := Lib.hid hn
      clear hn
      by_cases h255 : x = 255
      · subst h255
        by_cases hl1 : i + 1 < len
        · obtain ⟨ad', u, had, _, hy, hd⟩ := (hR.below hbw).at_ (k := i + 1) hl1
          obtain rfl : ad = ad' := by injection had
          obtain ⟨y, hy', rfl⟩ := bytesV_at hy
          have hd : wr.cell? ⟨ad.block, ad.off + (i + 1), none⟩ = some (.int .u8 (y.toNat : Int)) := by simpa [Addr.add] using hd
          have hdr2 := drop_at l (i + 1) y hy'
          have HD2 := Lib.hid hdr2
          clear hdr2 hy hy' had
          have hne : (((i : Int) + 1) == (len : Int)) = false := by simp; omega
          by_cases hy0 : y = 0
          · subst hy0
            go_wp2_with (at_builtin; go_loud (refine wpList_append_lies _ rfl _ _ 22 rfl B 5 ii _ 1 1 Tryd.underlying22 hi hz0 hz1 hz2 rfl (by omega) _ n _ rfl (hown.alloc _) ⟨wr.heap.size, 0, none⟩ 1 1 [Value.int .u8 255] rfl rfl (World.news_of_block (cs := #[Value.int .u8 255]) (t := 5) (fr := (0, 0)) (heap_alloc_new wr _)) (by simp [Value.oneCell']) (by omega) (by unfold maxLen; omega) (by omega) (by simp; omega) (wr.heap.size + 1) (by simp) ?_; intro gg cap w1 hown1 hgrow hat hlt2; have hb1 := below_append hbw hBw _ hown hgrow; have hc1 := grown_cell hgrow hc (by rw [block_of_add]; exact hfar)))
            go_round
            case rel =>
              have hP := HP.out
              have hQ := HQ.out
              rw [HD.out, HD2.out, unst_pair] at hP hQ
              refine ⟨i + 2, acc ++ [255], by omega, by simp [← HN.out]; omega, by go_num, ?_, hb1, by rw [List.append_assoc]; exact hP, ?_⟩
              · rw [numsV_append, List.length_append, ← HN.out]
                exact hown1
              · simp only at hQ; rw [← hQ, show i + 1 + 1 = i + 2 by omega]; omega
            case measure => simp [intOf]; omega
          · have hd0 : ((y.toNat : Int) == 0) = false := by
              simp; intro e; apply hy0; apply UInt8.toNat_inj.1; simp; omega
            have hE : unst (l.drop i) = ([], 0) := by
              rw [HD.out, HD2.out]; exact unst_end _ (fun z s e => by injection e with e1 e2; rw [← e1]; exact hy0)
            have hp := HP.out
            have hq := HQ.out
            rw [hE] at hp hq
            simp only [List.append_nil, Nat.add_zero] at hp hq
            rw [HN.out] at hown
            have hv := holds_own hown
            rw [hp] at hv
            have HQ2 := Lib.hid hq
            clear hp hq hE HP HQ HD HD2
            go_wp2_with fail
            go_ret2
            exact ⟨_, by rw [← HQ2.out]; first | done | rfl, hv, hbw⟩
        · have hE : unst (l.drop i) = ([], 0) := by
            rw [HD.out, List.drop_of_length_le (by have := HL.out; omega)]; exact unst_end _ (fun z s e => by cases e)
          have hne : (((i : Int) + 1) == (len : Int)) = true := by simp; omega
          have hp := HP.out
          have hq := HQ.out
          rw [hE] at hp hq
          simp only [List.append_nil, Nat.add_zero] at hp hq
          rw [HN.out] at hown
          have hv := holds_own hown
          rw [hp] at hv
          have HQ2 := Lib.hid hq
          clear hp hq hE HP HQ HD
          go_wp2_with fail
          go_ret2
          exact ⟨_, by rw [← HQ2.out]; first | done | rfl, hv, hbw⟩
      · have hd : ((x.toNat : Int) == 255) = false := by
          simp; intro e; apply h255; apply UInt8.toNat_inj.1; simp; omega
        go_wp2_with (at_builtin; go_loud (refine wpList_append_lies _ rfl _ _ 22 rfl B 5 ii _ 1 1 Tryd.underlying22 hi hz0 hz1 hz2 rfl (by omega) _ n _ rfl (hown.alloc _) ⟨wr.heap.size, 0, none⟩ 1 1 [Value.int .u8 (x.toNat : Int)] rfl rfl (World.news_of_block (cs := #[Value.int .u8 (x.toNat : Int)]) (t := 5) (fr := (0, 0)) (heap_alloc_new wr _)) (by simp [Value.oneCell']) (by omega) (by unfold maxLen; omega) (by omega) (by simp; omega) (wr.heap.size + 1) (by simp) ?_; intro gg cap w1 hown1 hgrow hat hlt2; have hb1 := below_append hbw hBw _ hown hgrow; have hc1 := grown_cell hgrow hc (by rw [block_of_add]; exact hfar)))
        go_round
        case rel =>
          have hP := HP.out
          have hQ := HQ.out
          rw [HD.out, unst_plain x _ h255] at hP hQ
          refine ⟨i + 1, acc ++ [x], by omega, by simp [← HN.out]; omega, by go_num, ?_, hb1, by rw [List.append_assoc]; exact hP, ?_⟩
          · rw [numsV_append, List.length_append, ← HN.out]
            exact hown1
          · simp only at hQ; rw [← hQ]; omega
        case measure => simp [intOf]; omega
    · obtain rfl : i = len := by omega
      have hall : l.drop i = [] := List.drop_of_length_le (by omega)
      rw [hall] at hp hq
      simp only [unst, List.append_nil, Nat.add_zero] at hp hq
      have hv := holds_own hown
      rw [hp] at hv
      have HQ := Lib.hid hq
      clear hp hq hl
      go_wp2_with fail
      go_ret2
      exact ⟨_, by rw [← HQ.out]; first | done | rfl, hv, hbw⟩

/-- what the law's Row makes of a byte -/
def rowF (x : UInt8) : UInt8 := if x.toNat % 4 = 0 then 255 else if x.toNat % 4 = 1 then 0 else x
def rowL (l : List UInt8) : List UInt8 := (l.take 300).map rowF
theorem rowL_snoc (l : List UInt8) (i : Nat) (x : UInt8) (h : l[i]? = some x) : (l.take (i + 1)).map rowF = (l.take i).map rowF ++ [rowF x] := by
  rw [List.take_add_one, h]; simp

set_option maxRecDepth 10000 in
theorem row_any (A : Option Addr) (c : Nat) (l : List UInt8) (W : World) (h : HoldsBytes W (.slice A l.length c) l) (hlen : l.length ≤ 9223372036854775807) :
    Calls Tryd.prog 12 #[.slice A l.length c] W fun e w' => ∃ A' c', e = .returned (.slice A' (rowL l).length c') ∧ HoldsBytes w' (.slice A' (rowL l).length c') (rowL l) ∧ (rowL l).length ≤ 300 ∧ (rowL l).length ≤ c' ∧ c' ≤ maxLen ∧ Below W.heap.size W w' := by
  obtain ⟨ii, hi, hz0, hz1, hz2⟩ := info_parts info5
  have hR := reads_of_holds h
  clear h
  obtain ⟨B, hB⟩ : ∃ B, B = W.heap.size := ⟨_, rfl⟩
  rw [← hB]
  rw [← hB] at hR
  obtain ⟨len, hl⟩ : ∃ len, len = l.length := ⟨_, rfl⟩
  rw [← hl]
  rw [← hl] at hR hlen
  go_enter Tryd.func12, Tryd.ntmps12
  go_wp2_with fail
  go_loopw [3, 4] (fun o k (w : World) => ∃ (i : Nat), i ≤ len ∧ i ≤ 300 ∧ k = .int .i64 i ∧ w.ownsRow B 5 1 o i (bytesV (numsL ((l.take i).map rowF))) ∧ Below B W w) (fun _ k _ => len - (intOf k).toNat)
  case atStart => exact ⟨0, by omega, by omega, rfl, World.ownsRow_nil _ _ _ _, Below.refl _ _⟩
  case round =>
    obtain ⟨i, hil, hi3, rfl, hown, hbw⟩ := hrel
    have hBw : B ≤ wr.heap.size := by have := hbw.size; omega
    have h3 : (i < len ∧ i < 300) ∨ (¬ i < len) ∨ (i < len ∧ ¬ i < 300) := by omega
    rcases h3 with ⟨hlt, hlt6⟩ | hend
    · obtain ⟨ad, u, rfl, hadb, hx, hc⟩ := (hR.below hbw).at_ (k := i) hlt
      obtain ⟨x, hx', rfl⟩ := bytesV_at hx
      have HS := Lib.hid (rowL_snoc l i x hx')
      have HL := Lib.hid hl
      clear hl hx hx'
      have t0 : (0 : Int) ≤ (i : Int) := Int.natCast_nonneg _
      have t1 : (i : Int) < (len : Int) := by omega
      have hfar := own_far hown hadb
      have hx2 : x.toNat < 256 := x.toNat_lt
      have hF : rowF x = if x.toNat % 4 = 0 then 255 else if x.toNat % 4 = 1 then 0 else x := rfl
      rcases (by omega : x.toNat % 4 = 0 ∨ x.toNat % 4 = 1 ∨ (x.toNat % 4 ≠ 0 ∧ x.toNat % 4 ≠ 1)) with h4 | h4 | ⟨h4, h5⟩
      · rw [if_pos h4] at hF
        have HF := Lib.hid hF
        have q1 : ((x.toNat : Int)).tmod 4 = 0 := by rw [Int.tmod_eq_emod_of_nonneg (by omega)]; omega
        have q2 : ((x.toNat : Int)) % 4 = 0 := by omega
        clear hF
        go_wp2_with (at_builtin; go_loud (refine wpList_append_lies _ rfl _ _ 22 rfl B 5 ii _ 1 1 Tryd.underlying22 hi hz0 hz1 hz2 rfl (by omega) _ i _ rfl (hown.alloc _) ⟨wr.heap.size, 0, none⟩ 1 1 [Value.int .u8 255] rfl rfl (World.news_of_block (cs := #[Value.int .u8 255]) (t := 5) (fr := (0, 0)) (heap_alloc_new wr _)) (by simp [Value.oneCell']) (by omega) (by unfold maxLen; omega) (by omega) (by simp; omega) (wr.heap.size + 1) (by simp) ?_; intro gg cap w1 hown1 hgrow hat hlt2; have hb1 := below_append hbw hBw _ hown hgrow))
        go_round
        case rel =>
          refine ⟨i + 1, by omega, by omega, by go_num, ?_, hb1⟩
          rw [HS.out, numsV_append, HF.out]
          exact hown1
        case measure => simp [intOf]; omega
      · rw [if_neg (by omega), if_pos h4] at hF
        have HF := Lib.hid hF
        have q1 : ((x.toNat : Int)).tmod 4 = 1 := by rw [Int.tmod_eq_emod_of_nonneg (by omega)]; omega
        have q2 : ((x.toNat : Int)) % 4 = 1 := by omega
        clear hF
        go_wp2_with (at_builtin; go_loud (refine wpList_append_lies _ rfl _ _ 22 rfl B 5 ii _ 1 1 Tryd.underlying22 hi hz0 hz1 hz2 rfl (by omega) _ i _ rfl (hown.alloc _) ⟨wr.heap.size, 0, none⟩ 1 1 [Value.int .u8 0] rfl rfl (World.news_of_block (cs := #[Value.int .u8 0]) (t := 5) (fr := (0, 0)) (heap_alloc_new wr _)) (by simp [Value.oneCell']) (by omega) (by unfold maxLen; omega) (by omega) (by simp; omega) (wr.heap.size + 1) (by simp) ?_; intro gg cap w1 hown1 hgrow hat hlt2; have hb1 := below_append hbw hBw _ hown hgrow))
        go_round
        case rel =>
          refine ⟨i + 1, by omega, by omega, by go_num, ?_, hb1⟩
          rw [HS.out, numsV_append, HF.out]
          exact hown1
        case measure => simp [intOf]; omega
      · rw [if_neg h4, if_neg h5] at hF
        have HF := Lib.hid hF
        have q1 : (((x.toNat : Int)) % 4 == 0) = false := by simp; omega
        have q2 : (((x.toNat : Int)) % 4 == 1) = false := by simp; omega
        clear hF
        go_wp2_with (at_builtin; go_loud (refine wpList_append_lies _ rfl _ _ 22 rfl B 5 ii _ 1 1 Tryd.underlying22 hi hz0 hz1 hz2 rfl (by omega) _ i _ rfl (hown.alloc _) ⟨wr.heap.size, 0, none⟩ 1 1 [Value.int .u8 (x.toNat : Int)] rfl rfl (World.news_of_block (cs := #[Value.int .u8 (x.toNat : Int)]) (t := 5) (fr := (0, 0)) (heap_alloc_new wr _)) (by simp [Value.oneCell']) (by omega) (by unfold maxLen; omega) (by omega) (by simp; omega) (wr.heap.size + 1) (by simp) ?_; intro gg cap w1 hown1 hgrow hat hlt2; have hb1 := below_append hbw hBw _ hown hgrow))
        go_round
        case rel =>
          refine ⟨i + 1, by omega, by omega, by go_num, ?_, hb1⟩
          rw [HS.out, numsV_append, HF.out]
          exact hown1
        case measure => simp [intOf]; omega
    · have hi' : (l.take i).map rowF = rowL l := by
        unfold rowL
        rcases hend with h | ⟨_, h⟩
        · rw [List.take_of_length_le (by omega), List.take_of_length_le (by omega)]
        · exact congrArg (fun k => (l.take k).map rowF) (by omega)
      have hlen2 : i = (rowL l).length := by rw [← hi']; simp; omega
      rw [hi'] at hown
      have HL2 := Lib.hid hlen2
      obtain ⟨A', c', rfl, h1, h2⟩ := own_form hown
      have hown' := hown
      rw [hlen2] at hown'
      have hv := holds_own hown'
      clear hown' hi' hlen2 hl
      rcases hend with hlt | ⟨hlt, hlt6⟩
      all_goals
        go_wp2_with fail
        go_ret
        exact ⟨A', c', by rw [← HL2.out]; first | done | rfl, by rw [← HL2.out] at hv ⊢; exact hv, by rw [← HL2.out]; omega, by rw [← HL2.out]; omega, h2, hbw⟩
end Go.Proofs.YtijnldbbibgjcaaDoor
