/- BitsStuff as a call. -/
import Derived.Test.YtijnldbbibgjcaaDoorStuffs
namespace Go.Proofs.YtijnldbbibgjcaaDoor
open Go.RowKit
open Go.Lib (numsL bytesOf HoldsBytes)

theorem stuffs_n (A : Option Addr) (c n : Nat) (l : List UInt8) (W : World) (hn : l.length = n) (h : HoldsBytes W (.slice A l.length c) l) (hlen : n ≤ 1099511627776) (hlc : n ≤ c) (hc : c ≤ maxLen) :
    Calls Tryd.prog 11 #[.slice A n c] W fun e w' => e = .returned (.bool true) ∧ Below W.heap.size W w' := by
  subst hn
  exact stuffs_any A c l W h hlen hlc (by unfold maxLen at hc; omega)
theorem stuff_walk (A : Option Addr) (len cap : Nat) (zs : List Int) (A2 : Option Addr) (len2 cap2 : Nat) (zs2 : List Int) (W : World) (h : IsRow .u8 W A len cap zs) (h2 : IsRow .u8 W A2 len2 cap2 zs2) :
    Calls Tryd.prog 6 #[.slice A len cap, .slice A2 len2 cap2] W fun e w' => e = .returned (.bool true) ∧ Below W.heap.size W w' := by
  obtain ⟨l, hl, hlc, hcm, hv⟩ := row_holds h
  obtain ⟨l2, hl2, hlc2, hcm2, hv2⟩ := row_holds h2
  clear h h2
  have HL := Lib.hid hl
  have HL2 := Lib.hid hl2
  have hm2 : len2 ≤ maxLen := by omega
  clear hl hl2
  by_cases h4 : 400 < len
  · go_enter Tryd.func6, Tryd.ntmps6
    go_wp2_with fail
    refine (known_any _).mono ?_
    rintro e w' ⟨rfl, hb⟩
    go_wp2_with fail
    go_ret
    exact ⟨rfl, hb⟩
  · go_enter Tryd.func6, Tryd.ntmps6
    go_wp2_with fail
    refine (known_any _).mono ?_
    rintro e w1 ⟨rfl, hb1⟩
    have hv1 := holds_to hv hb1
    have hv21 := holds_to hv2 hb1
    go_wp2_with fail
    refine (stuffs_n A cap len l _ HL.out hv1 (by omega) hlc hcm).mono ?_
    rintro e w2 ⟨rfl, hb2⟩
    have hv22 := holds_to hv21 hb2
    have hb12 := hb1.trans (hb2.mono hb1.size)
    go_wp2_with fail
    refine (row_n A2 cap2 len2 l2 _ HL2.out hv22 hm2).mono ?_
    rintro e w3 ⟨A3, c3, rfl, hv3, hl3, hl4, hc3, hb3⟩
    have hb13 := hb12.trans (hb3.mono hb12.size)
    go_wp2_with fail
    refine (stuffs_n A3 c3 _ (rowL l2) _ rfl hv3 (by omega) hl4 hc3).mono ?_
    rintro e w4 ⟨rfl, hb4⟩
    have hb14 := hb13.trans (hb4.mono hb13.size)
    go_wp2_with fail
    go_ret
    exact ⟨rfl, hb14⟩
end Go.Proofs.YtijnldbbibgjcaaDoor
