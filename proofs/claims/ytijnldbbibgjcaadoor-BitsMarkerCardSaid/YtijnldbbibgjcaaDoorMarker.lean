/- BitsMarker as a call. -/
import Derived.Test.YtijnldbbibgjcaaDoorRowHolds
namespace Go.Proofs.YtijnldbbibgjcaaDoor
open Go.RowKit
open Go.Lib (numsL bytesOf HoldsBytes)

theorem stuffU_cons (x : UInt8) (b : List UInt8) : stuffU (x :: b) = (if x = 255 then [255, 0] else [x]) ++ stuffU b := rfl
theorem stuffU_mark (b : List UInt8) : ∀ i : Nat, (stuffU b)[i]? = some 255 → (stuffU b)[i + 1]? = some 0 := by
  induction b with
  | nil => intro i h; exact absurd h (by simp [stuffU])
  | cons x b ih =>
    intro i h
    rw [stuffU_cons] at h ⊢
    by_cases hx : x = 255
    · rw [if_pos hx] at h ⊢
      match i, h with
      | 0, _ => rfl
      | 1, h => simp at h
      | i + 2, h => simpa using ih i (by simpa using h)
    · rw [if_neg hx] at h ⊢
      match i, h with
      | 0, h => simp at h; exact absurd h hx
      | i + 1, h => simpa using ih i (by simpa using h)
theorem unst_stuff (b t : List UInt8) : unst (stuffU b ++ t) = (b ++ (unst t).1, (stuffU b).length + (unst t).2) := by
  induction b with
  | nil => simp [stuffU]
  | cons x b ih =>
    rw [stuffU_cons]
    by_cases hx : x = 255
    · rw [if_pos hx]
      show unst (255 :: 0 :: (stuffU b ++ t)) = _
      rw [unst_pair, ih, hx]
      simp; omega
    · rw [if_neg hx]
      show unst (x :: (stuffU b ++ t)) = _
      rw [unst_plain x _ hx, ih]
      simp; omega
theorem stuff_n (A : Option Addr) (c n : Nat) (l : List UInt8) (w : World) (hn : l.length = n) (h : HoldsBytes w (.slice A l.length c) l) (hlen : n ≤ 1099511627776) (hlc : n ≤ c) (hc : c ≤ maxLen) :
    Calls Tryd.prog 13 #[.slice A n c] w fun e w' => ∃ A' c', e = .returned (.slice A' (stuffU l).length c') ∧ HoldsBytes w' (.slice A' (stuffU l).length c') (stuffU l) ∧ Below w.heap.size w w' := by
  subst hn
  refine (stuff_any A c l w h hlen hlc (by unfold maxLen at hc; omega)).mono ?_
  rintro e w' ⟨v, rfl, hv, hb⟩
  obtain ⟨p, cap, rfl, h1, h2⟩ := hv
  exact ⟨p, cap, rfl, ⟨p, cap, rfl, h1, h2⟩, hb⟩
theorem extra_n (A : Option Addr) (c n : Nat) (l : List UInt8) (w : World) (hn : l.length = n) (h : HoldsBytes w (.slice A l.length c) l) :
    Calls Tryd.prog 14 #[.slice A n c] w fun e w' => e = .returned (.int .i64 (l.count 255)) ∧ Below w.heap.size w w' := by
  subst hn
  exact extra_any A c l w h
theorem unstuff_n (A : Option Addr) (c n : Nat) (l : List UInt8) (W : World) (hn : l.length = n) (h : HoldsBytes W (.slice A l.length c) l) (hlen : n ≤ 1099511627776) :
    Calls Tryd.prog 15 #[.slice A n c] W fun e w' => ∃ v, e = .returned (.tuple #[v, .int .i64 (unst l).2]) ∧ HoldsBytes w' v (unst l).1 ∧ Below W.heap.size W w' := by
  subst hn
  exact unstuff_any A c l W h hlen
theorem bytesV_one (l : List Int) : ∀ u ∈ bytesV l, u.oneCell' = true := by
  intro u hu
  obtain ⟨x, _, rfl⟩ := List.mem_map.1 hu
  rfl
theorem below_any {B : Nat} {W w w1 : World} {e : TypeId} {size n : Nat} {v : Value} {xs : List Value} (hb : Below B W w) (hB : B ≤ w.heap.size) (hown : w.ownsRow B e size v n xs) (hg : w.grownBy w1 v.ownBlock) : Below B W w1 :=
  hb.grown hg hB (fun k hk => by
    rcases Nat.lt_or_ge k B with h | h
    · exact absurd hk (own_far hown h)
    · exact h)

theorem holds_own' {w : World} {base n : Nat} {e : TypeId} {v : Value} {l : List UInt8} (h : w.ownsRow base e 1 v n (bytesV (numsL l))) (hn : n = l.length) : HoldsBytes w v l := by
  subst hn; exact holds_own h
theorem marker_walk (A : Option Addr) (len cap : Nat) (zs : List Int) (s : Int) (A2 : Option Addr) (len2 cap2 : Nat) (zs2 : List Int) (W : World) (h : IsRow .u8 W A len cap zs) (hs : (Lit.int .u8 s).wf = true) (h2 : IsRow .u8 W A2 len2 cap2 zs2) :
    Calls Tryd.prog 7 #[.slice A len cap, .int .u8 s, .slice A2 len2 cap2] W fun e w' => e = .returned (.bool true) ∧ Below W.heap.size W w' := by
  obtain ⟨l, hl, hlc, hcm, hv⟩ := row_holds h
  obtain ⟨l2, hl2, hlc2, hcm2, hv2⟩ := row_holds h2
  obtain ⟨s0, s1⟩ := bounds_u8 hs
  obtain ⟨ii, hi, hz0, hz1, hz2⟩ := info_parts info5
  clear h h2 hs
  have HL := Lib.hid hl
  have HL2 := Lib.hid hl2
  have hm1 : len ≤ maxLen := by omega
  clear hl hl2
  by_cases h4 : 100 < len2
  · go_enter Tryd.func7, Tryd.ntmps7
    go_wp2_with fail
    refine (known_any _).mono ?_
    rintro e w' ⟨rfl, hb⟩
    go_wp2_with fail
    go_ret
    exact ⟨rfl, hb⟩
  · go_enter Tryd.func7, Tryd.ntmps7
    go_wp2_with fail
    refine (row_n A cap len l _ HL.out hv hm1).mono ?_
    rintro e w1 ⟨A1, c1, rfl, hr1, hrl, hr2, hc1, hb1⟩
    obtain ⟨b, hb⟩ : ∃ b, b = rowL l := ⟨_, rfl⟩
    rw [← hb] at hr1 hrl hr2 ⊢
    clear hb
    have hsl := stuffU_length b
    have hcl := List.count_le_length (a := (255 : UInt8)) (l := b)
    obtain ⟨N, hN⟩ : ∃ N, N = b.length := ⟨_, rfl⟩
    obtain ⟨C, hC⟩ : ∃ C, C = b.count 255 := ⟨_, rfl⟩
    obtain ⟨S, hS⟩ : ∃ S, S = (stuffU b).length := ⟨_, rfl⟩
    rw [← hN] at hrl hr2 hsl hcl ⊢
    rw [← hS, ← hC] at hsl
    rw [← hC] at hcl
    have HN := Lib.hid hN
    have HS := Lib.hid hS
    have HC := Lib.hid hC
    have hS6 : S ≤ 600 := by omega
    have hsum : (S : Int) = (N : Int) + (C : Int) := by omega
    have HSL := Lib.hid hsl
    have hne : ((S : Int) == (N : Int) + (C : Int)) = true := by simp; omega
    clear hN hC hS hsl hsum
    have hv21 := holds_to hv2 hb1
    go_wp2_with fail
    refine (stuff_n A1 c1 N b _ HN.out.symm hr1 (by omega) hr2 hc1).mono ?_
    rintro e w2 ⟨A2', c2, rfl, hs2, hb2⟩
    have hv22 := holds_to hv21 hb2
    have hr12 := holds_to hr1 hb2
    have hb12 := hb1.trans (hb2.mono hb1.size)
    rw [← HS.out]
    rw [← HS.out] at hs2
    go_wp2_with fail
    refine (extra_n A1 c1 N b _ HN.out.symm hr12).mono ?_
    rintro e w3 ⟨rfl, hb3⟩
    have hs3 := holds_to hs2 hb3
    have hv23 := holds_to hv22 hb3
    have hr13 := holds_to hr12 hb3
    have hb13 := hb12.trans (hb3.mono hb12.size)
    rw [← HC.out]
    go_wp2_with fail
    have hR := reads_of_holds (by rw [← HS.out]; exact hs3 : HoldsBytes w3 (.slice A2' (stuffU b).length c2) (stuffU b))
    rw [← HS.out] at hR
    go_loop [9] (fun k => ∃ i : Nat, i ≤ S ∧ k = .int .i64 i) (fun k => S - (intOf k).toNat)
    case atStart => exact ⟨0, by omega, rfl⟩
    case round =>
      obtain ⟨i, hiS, rfl⟩ := hrel
      by_cases hlt : i + 1 < S
      · obtain ⟨ad, u, rfl, hadb, hx, hc⟩ := hR.at_ (k := i) (by omega)
        obtain ⟨x, hx', rfl⟩ := bytesV_at hx
        obtain ⟨ad', u, had, _, hy, hd⟩ := hR.at_ (k := i + 1) hlt
        obtain rfl : ad = ad' := by injection had
        obtain ⟨y, hy', rfl⟩ := bytesV_at hy
        have hd : w3.cell? ⟨ad.block, ad.off + (i + 1), none⟩ = some (.int .u8 (y.toNat : Int)) := by simpa [Addr.add] using hd
        by_cases h255 : x = 255
        · subst h255
          obtain rfl : y = 0 := by
            have := stuffU_mark b i hx'
            rw [hy'] at this
            injection this
          clear hx hx' hy hy' had
          go_wp2_with fail
          go_round
          case rel => exact ⟨i + 1, by omega, by go_num⟩
          case measure => simp [intOf]; omega
        · have hd255 : ((x.toNat : Int) == 255) = false := by
            simp; intro e; apply h255; apply UInt8.toNat_inj.1; simp; omega
          clear hx hx' hy hy' had
          go_wp2_with fail
          go_round
          case rel => exact ⟨i + 1, by omega, by go_num⟩
          case measure => simp [intOf]; omega
      · clear hR
        have hu1 : unst (stuffU b) = (b, S) := by
          have := unst_stuff b []
          rw [List.append_nil] at this
          rw [this, HS.out]; simp [unst]
        go_wp2_with fail
        refine (unstuff_n A2' c2 S (stuffU b) _ HS.out.symm (by rw [← HS.out]; exact hs3) (by omega)).mono ?_
        rintro e w4 ⟨vx, rfl, hx4, hb4⟩
        rw [hu1] at hx4 ⊢
        have hs4 := holds_to hs3 hb4
        have hv24 := holds_to hv23 hb4
        have hr14 := holds_to hr13 hb4
        have hb14 := hb13.trans (hb4.mono hb13.size)
        have hR4 := reads_of_holds (by rw [← HS.out]; exact hs4 : HoldsBytes w4 (.slice A2' (stuffU b).length c2) (stuffU b))
        rw [← HS.out] at hR4
        have hR2 := reads_of_holds hv24
        rw [HL2.out] at hR2
        obtain ⟨B, hB⟩ : ∃ B, B = w4.heap.size := ⟨_, rfl⟩
        have hBB := Lib.hid hB
        have hb44 : Below B w4 w4 := Below.refl _ _
        have hB4 : B ≤ w4.heap.size := Nat.le_of_eq hB
        rw [← hB] at hR4 hR2
        clear hB
        go_wp2_with (first | (at_builtin; (refine wpList_append_any _ rfl _ _ 22 rfl B 5 ii _ 1 1 Tryd.underlying22 hi hz0 hz1 hz2 rfl (by omega) _ 0 [] rfl (World.ownsRow_nil _ _ _ _) B A2' S c2 _ rfl hR4 (bytesV_one _) (by unfold maxLen; omega) (by omega) hB4 ?_; intro vl w5 hown5 hg5 hat5; simp only [Nat.zero_add, List.nil_append] at hown5; have hb5 := below_any hb44 hB4 (World.ownsRow_nil w4 B 5 1) hg5; have hB5 : B ≤ w5.heap.size := (by have := hb5.size; omega))) | (at_builtin; (refine wpList_append_lies _ rfl _ _ 22 rfl B 5 ii _ 1 1 Tryd.underlying22 hi hz0 hz1 hz2 rfl (by omega) _ S _ rfl (hown5.alloc _) ⟨w5.heap.size, 0, none⟩ 2 2 [Value.int .u8 255, Value.int .u8 (max s 1)] rfl rfl (World.news_of_block (cs := #[Value.int .u8 255, Value.int .u8 (max s 1)]) (t := 5) (fr := (0, 0)) (heap_alloc_new w5 _)) (by simp [Value.oneCell']) (by omega) (by unfold maxLen; omega) (by omega) (by simp; omega) (w5.heap.size + 1) (by simp) ?_; intro gg cap w6 hown6 hg6 hat6 hlt6; have hb6 := below_append hb5 hB5 _ hown5 hg6; have hB6 : B ≤ w6.heap.size := (by have := hb6.size; omega))) | (at_builtin; (refine wpList_append_any _ rfl _ _ 22 rfl B 5 ii _ 1 1 Tryd.underlying22 hi hz0 hz1 hz2 rfl (by omega) _ (S + 2) _ rfl hown6 B A2 len2 cap2 _ rfl (hR2.below hb6) (bytesV_one _) (by unfold maxLen; omega) (by omega) hB6 ?_; intro vm w7 hown7 hg7 hat7; have hb7 := below_any hb6 hB6 hown6 hg7; obtain ⟨A7, c7, rfl, hn7, hc7⟩ := own_form hown7)))
        have hmx : 1 ≤ max s 1 ∧ max s 1 ≤ 255 := by omega
        obtain ⟨m, hm⟩ : ∃ m : UInt8, max s 1 = (m.toNat : Int) := ⟨UInt8.ofNat (max s 1).toNat, by rw [UInt8.toNat_ofNat']; omega⟩
        have hm0 : m ≠ 0 := by rintro rfl; simp at hm; omega
        have hL7 : HoldsBytes w7 (.slice A7 (stuffU b ++ ([255, m] ++ l2)).length c7) (stuffU b ++ ([255, m] ++ l2)) := by
          have e : (stuffU b ++ ([255, m] ++ l2)).length = S + 2 + len2 := by rw [HS.out, ← HL2.out]; simp; omega
          have e2 : bytesV (numsL (stuffU b ++ ([255, m] ++ l2))) = bytesV (numsL (stuffU b)) ++ [.int .u8 255, .int .u8 (max s 1)] ++ bytesV (numsL l2) := by
            rw [numsV_append, numsV_append, hm, List.append_assoc]; rfl
          rw [e]
          refine holds_own' (base := B) (e := 5) ?_ e.symm
          rw [e2]; exact hown7
        have hu2 : unst (stuffU b ++ ([255, m] ++ l2)) = (b, S) := by
          rw [unst_stuff]
          show (b ++ (unst (255 :: m :: l2)).1, (stuffU b).length + (unst (255 :: m :: l2)).2) = (b, S)
          rw [unst_end _ (fun y t e => by injection e with e1 e2; rw [← e1]; exact hm0), HS.out]; simp
        have hl7 : (stuffU b ++ ([255, m] ++ l2)).length = S + 2 + len2 := by rw [HS.out, ← HL2.out]; simp; omega
        have HL7 := Lib.hid hl7
        have hx7 := holds_below hx4 hb7 (by have := hBB.out; omega)
        have hr7 := holds_below hr14 hb7 (by have := hBB.out; omega)
        have hb07 := hb14.trans (hb7.mono (by have := hb14.size; have := hBB.out; omega))
        clear hl7 hm hmx hown7 hown6 hown5 hg5 hg6 hg7 hat5 hat6 hat7 hu1
        refine (unstuff_n A7 c7 _ (stuffU b ++ ([255, m] ++ l2)) _ HL7.out hL7 (by omega)).mono ?_
        rintro e w8 ⟨vy, rfl, hy8, hb8⟩
        rw [hu2] at hy8 ⊢
        have hx8 := holds_to hx7 hb8
        have hr8 := holds_to hr7 hb8
        have hb08 := hb07.trans (hb8.mono hb07.size)
        go_wp2_with fail
        refine (known_any _).mono ?_
        rintro e w9 ⟨rfl, hb9⟩
        have hcx := convert_holds (holds_to hx8 hb9)
        have hcr := convert_holds (holds_to hr8 hb9)
        have hcy := convert_holds (holds_to hy8 hb9)
        rw [← HN.out] at hcr
        have hb09 := hb08.trans (hb9.mono hb08.size)
        go_wp2_with fail
        go_ret
        exact ⟨rfl, hb09⟩
end Go.Proofs.YtijnldbbibgjcaaDoor
