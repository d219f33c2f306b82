/- BitsBack as a call. -/
import Derived.Test.YtijnldbbibgjcaaDoorBackMath
namespace Go.Proofs.YtijnldbbibgjcaaDoor
open Go.RowKit
open Go.Lib (numsL bytesOf HoldsBytes)

theorem back_walk (A : Option Addr) (len cap : Nat) (zs : List Int) (W : World) (h : IsRow .u8 W A len cap zs) :
    Calls Tryd.prog 4 #[.slice A len cap] W fun e w' => e = .returned (.bool true) ∧ Below W.heap.size W w' := by
  obtain ⟨bs, hbl, hlc, hcm, hby, hR⟩ := row_reads h
  obtain ⟨ii, hi, hz0, hz1, hz2⟩ := info_parts info25
  clear h
  have hlm : len ≤ maxLen := by omega
  unfold maxLen at hcm hlm
  obtain ⟨B, hB⟩ : ∃ B, B = W.heap.size := ⟨_, rfl⟩
  rw [← hB]
  rw [← hB] at hR
  go_enter Tryd.func4, Tryd.ntmps4
  go_wp2_with fail
  go_loopw [3, 4] (fun l k (w : World) => ∃ j i : Nat, i = 2 * j ∧ i ≤ len + 1 ∧ i ≤ 80 ∧ k = .int .i64 i ∧ w.ownsRow B 25 2 l j (codesV (backC bs j)) ∧ Below B W w) (fun _ k _ => len + 1 - (intOf k).toNat)
  case atStart => exact ⟨0, 0, rfl, by omega, by omega, rfl, World.ownsRow_nil _ _ _ _, Below.refl _ _⟩
  case round =>
    obtain ⟨j, i, hij, hil, hi60, rfl, hown, hbw⟩ := hrel
    have hBw : B ≤ wr.heap.size := by have := hbw.size; omega
    have h3 : (i + 1 < len ∧ i < 80) ∨ (¬ i + 1 < len) ∨ (i + 1 < len ∧ ¬ i < 80) := by omega
    rcases h3 with ⟨hlt, hlt6⟩ | hend
    · have hRw := hR.below hbw
      obtain ⟨ad, u, rfl, hadb, hx, hc⟩ := hRw.at_ (k := i) (by omega)
      obtain ⟨ad', u', had, _, hy, hd⟩ := hRw.at_ (k := i + 1) hlt
      obtain rfl : ad = ad' := by injection had
      have hx' : bs[i]? = some (bs.getD i 0) := by rw [List.getD_eq_getElem?_getD, List.getElem?_eq_getElem (by omega)]; rfl
      have hy' : bs[i + 1]? = some (bs.getD (i + 1) 0) := by rw [List.getD_eq_getElem?_getD, List.getElem?_eq_getElem (by omega)]; rfl
      obtain rfl : u = .int .u8 (bs.getD i 0) := by
        rw [bytesV, List.getElem?_map, hx'] at hx; simpa using hx.symm
      obtain rfl : u' = .int .u8 (bs.getD (i + 1) 0) := by
        rw [bytesV, List.getElem?_map, hy'] at hy; simpa using hy.symm
      obtain ⟨g0, g1⟩ := getD_bd hby i
      obtain ⟨g2, g3⟩ := getD_bd hby (i + 1)
      have hsn := backC_snoc bs j
      rw [← hij] at hsn
      have HS := Lib.hid hsn
      have HL := Lib.hid hbl
      have HI := Lib.hid hij
      clear hbl hx hx' hy hy' hRw hsn hij
      generalize bs.getD i 0 = b at *
      generalize bs.getD (i + 1) 0 = c at *
      have hfar := own_far hown (by rw [block_of_add]; exact hadb : (ad.add i).block < B)
      have hadl : (ad.add i).block < wr.heap.size := by rw [block_of_add]; omega
      have hadl2 : ad.block < wr.heap.size := by omega
      have hfar2 := own_far hown hadb
      have hd : wr.cell? ⟨ad.block, ad.off + (i + 1), none⟩ = some (.int .u8 c) := by simpa [Addr.add] using hd
      have t0 : (0 : Int) ≤ (i : Int) := Int.natCast_nonneg _
      have t1 : (i : Int) < (len : Int) := by omega
      obtain ⟨m, hm⟩ : ∃ m : Nat, b % 33 = m := ⟨(b % 33).toNat, by omega⟩
      have hm32 : m ≤ 32 := by omega
      have p1 := pow_le_int m 32 hm32
      have p2 := pow_pos_int m
      have t2 : b.tmod 33 = (m : Int) := by rw [Int.tmod_eq_emod_of_nonneg g0]; exact hm
      have hX0 : 0 ≤ c * 16843009 + (i : Int) := by omega
      have hX1 : c * 16843009 + (i : Int) < 9223372036854775808 := by omega
      have hM := i64_mask (c * 16843009 + (i : Int)) m hX0 hX1 hm32
      have HM := Lib.hid hM
      have Hm := Lib.hid hm
      clear hM
      obtain ⟨V, hV⟩ : ∃ V, V = bits .and .i64 (c * 16843009 + (i : Int)) (2 ^ m - 1) := ⟨_, rfl⟩
      have hjl : j ≤ 40 := by have := HI.out; omega
      go_wp2_with (at_builtin; go_loud (refine wpList_append_lies _ rfl _ _ 23 rfl B 25 ii _ 2 16 Tryd.underlying23 hi hz0 hz1 hz2 rfl (by omega) _ j _ rfl (hown.alloc _) ⟨wr.heap.size, 0, none⟩ 1 1 [Value.int .i64 (m : Int), Value.int .i64 (bits .and .i64 (c * 16843009 + (i : Int)) (2 ^ m - 1))] rfl rfl (World.news_of_block (cs := #[Value.int .i64 (m : Int), Value.int .i64 (bits .and .i64 (c * 16843009 + (i : Int)) (2 ^ m - 1))]) (t := 25) (fr := (0, 0)) (heap_alloc_new wr _)) (by simp [Value.oneCell']) (by omega) (by unfold maxLen; omega) (by omega) (by simp; omega) (wr.heap.size + 1) (by simp) ?_; intro gg cap w1 hown1 hgrow hat hlt2))
      go_round
      case rel =>
        refine ⟨j + 1, i + 2, by have := HI.out; omega, by omega, by have := HI.out; omega, by go_num, ?_, ?_⟩
        · have e1 : (b % 33).toNat = m := by have := Hm.out; omega
          rw [HS.out, e1, Hm.out, ← HM.out]
          exact hown1
        · exact (hbw.alloc hBw _).grown hgrow (by simp; omega) (fun k hk => by
            rcases Nat.lt_or_ge k B with h | h
            · exact absurd hk (own_far hown h)
            · exact h)
      case measure => simp [intOf]; omega
    · obtain ⟨A', c', rfl, hic, hcm'⟩ := own_form hown
      unfold maxLen at hcm'
      have hcl := backC_length bs j
      have hwf := backC_wf bs j
      have hgd := backC_good bs j
      have hj40 : j ≤ 40 := by omega
      have hRl := Reads.of_own hown
      have hb1 := codesBits_bd (backC bs j)
      rw [hcl] at hb1
      have HC := Lib.hid hcl
      have HI := Lib.hid hij
      clear hown hR hby hcl hij hbl
      generalize backC bs j = cs at *
      rcases hend with hlt | ⟨hlt, hlt6⟩
      all_goals
        go_wp2_with fail
        refine (pack_n _ _ _ cs HC.out (by omega) hwf _ (Nat.le_refl _) hRl).mono ?_
        rintro e w1 ⟨v1, c1, rfl, _, hcv, hP, hB1⟩
        unfold maxLen at hcv
        have hRp := Reads.of_own hP
        have hR1 := hRl.below hB1
        have hAB : AreBytes (packB (codesBits cs)) := padded_bytes _ _
        obtain ⟨T, hT⟩ : ∃ T, T = (codesBits cs).length := ⟨_, rfl⟩
        obtain ⟨Q, hQ⟩ : ∃ Q, Q = (packB (codesBits cs)).length := ⟨_, rfl⟩
        have hQT : Q = (T + 7) / 8 := by rw [hQ, hT, packB_length]
        have hQ8 : Q ≤ 1280 := by omega
        have hT8 : T ≤ 1280 := by omega
        rw [← hT, ← hQ]
        rw [← hQ] at hRp
        have HQT := Lib.hid hQT
        have HQ := Lib.hid hQ
        have HT := Lib.hid hT
        clear hP hQT hQ hT hb1
        go_wp2_with fail
        go_loop [8, 9] (fun at_ k => ∃ q : Nat, q ≤ j ∧ k = .int .i64 q ∧ at_ = .int .i64 (codesBits (cs.take q)).length) (fun _ k => j - (intOf k).toNat)
        case atStart => exact ⟨0, by omega, rfl, rfl⟩
        case round =>
          obtain ⟨q, hq, rfl, rfl⟩ := hrel
          have hle := codesBits_le cs q
          rw [← HT.out] at hle
          by_cases hlt : q < j
          · obtain ⟨⟨N, V⟩, hc⟩ : ∃ c, cs[q]? = some c := ⟨_, List.getElem?_eq_getElem (by have := HC.out; omega)⟩
            obtain ⟨y0, y1, y2, y3⟩ := hgd _ (List.mem_of_getElem? hc)
            simp only at y0 y1 y2 y3
            obtain ⟨ad, rfl, hblk, hcell⟩ := hR1.2 (by omega)
            obtain ⟨q1, q2⟩ := codesV_at cs q (N, V) hc
            have d1 := hcell _ _ q1
            have d2 := hcell _ _ q2
            rw [← add_of_add] at d2
            have d3 : w1.cell? ⟨(ad.add (q * 2)).block, (ad.add (q * 2)).off + 1, none⟩ = some (.int .i64 V) := d2
            have hat := codesBits_at cs q (N, V) hc
            have hsn := codesBits_snoc cs q (N, V) hc
            obtain ⟨M, rfl⟩ : ∃ M : Nat, N = M := ⟨N.toNat, by omega⟩
            have hclip : clipN (M : Int) = M := by unfold clipN; omega
            simp only [hclip] at hat hsn
            have hM32 : M ≤ 32 := by omega
            have p1 := pow_le_int M 32 hM32
            simp only [Int.toNat_natCast] at y3
            have hpk := peekS_top (codesBits (cs.take q)) (codesBits (cs.drop (q + 1))) V M y2 y3 M (Nat.le_refl _)
            rw [← hat, Nat.sub_self, Int.pow_zero, Int.ediv_one] at hpk
            have hsl : (codesBits (cs.take (q + 1))).length = (codesBits (cs.take q)).length + M := by rw [hsn, List.length_append, topBits_length]
            have hle2 := codesBits_le cs (q + 1)
            rw [← HT.out, hsl] at hle2
            have HP := Lib.hid hpk
            have HSL := Lib.hid hsl
            have HAT := Lib.hid hat
            clear hpk hsl hat hsn d2 hcell q1 q2 hc hclip
            go_wp2_with fail
            refine (peek_yes' v1 c1 Q _ _ M _ HQ.out.symm hAB hRp (by omega) hM32 (by have := HQT.out; omega)).mono ?_
            rintro e w2 ⟨rfl, rfl⟩
            rw [HP.out]
            go_wp2_with fail
            go_round
            case rel => exact ⟨q + 1, by omega, by go_num, by rw [HSL.out]; go_num⟩
            case measure => simp [intOf]; omega
          · obtain rfl : q = j := by omega
            have hall : cs.take q = cs := List.take_of_length_le (by have := HC.out; omega)
            rw [hall, ← HT.out]
            obtain ⟨L, hL⟩ : ∃ L, L = 8 * Q - T := ⟨_, rfl⟩
            have hL7 : L ≤ 7 := by have := HQT.out; omega
            have hLT : T + L = 8 * Q := by have := HQT.out; omega
            have hsub : (8 : Int) * (Q : Int) - (T : Int) = (L : Int) := by omega
            have p1 := pow_le_int L 7 hL7
            have p2 := pow_pos_int L
            have hend := peekS_end (codesBits cs) L (by rw [← HT.out, ← HQ.out]; omega)
            rw [← HT.out] at hend
            have HE := Lib.hid hend
            have HL := Lib.hid hL
            clear hend hL
            go_wp2_with fail
            refine (peek_yes' v1 c1 Q _ T L _ HQ.out.symm hAB hRp (by omega) (by omega) (by omega)).mono ?_
            rintro e w2 ⟨rfl, rfl⟩
            rw [HE.out]
            go_wp2_with fail
            refine (known_any _).mono ?_
            rintro e w3 ⟨rfl, hB3⟩
            have hB13 := hB1.trans (hB3.mono hB1.size)
            go_wp2_with fail
            go_ret
            exact ⟨rfl, hbw.trans (hB13.mono hBw)⟩
end Go.Proofs.YtijnldbbibgjcaaDoor
