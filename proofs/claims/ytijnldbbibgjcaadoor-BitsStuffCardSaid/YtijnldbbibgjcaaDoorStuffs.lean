/- stuffs: both sides say the same of any bytes. -/
import Derived.Test.YtijnldbbibgjcaaDoorRowHolds
import Derived.Deep.RegionWith
import Derived.BigRegion
namespace Go.Proofs.YtijnldbbibgjcaaDoor
open Go.RowKit
open Go.Lib (numsL bytesOf HoldsBytes)


set_option maxHeartbeats 20000000 in
theorem stuffs_any (A : Option Addr) (c : Nat) (l : List UInt8) (W : World) (h : HoldsBytes W (.slice A l.length c) l) (hlen : l.length ≤ 1099511627776) (hlc : l.length ≤ c) (hc : c ≤ 9223372036854775807) :
    Calls Tryd.prog 11 #[.slice A l.length c] W fun e w' => e = .returned (.bool true) ∧ Below W.heap.size W w' := by
  obtain ⟨U, hU⟩ : ∃ U, U = unst l := ⟨_, rfl⟩
  obtain ⟨L, hL⟩ : ∃ L, L = stuffU l := ⟨_, rfl⟩
  obtain ⟨C, hC⟩ : ∃ C, C = l.count 255 := ⟨_, rfl⟩
  have HU := Lib.hid hU
  have HL := Lib.hid hL
  have HC := Lib.hid hC
  obtain ⟨len, hn⟩ : ∃ len, len = l.length := ⟨_, rfl⟩
  rw [← hn] at h hlen hlc ⊢
  have K15 : ∀ w, HoldsBytes w (.slice A len c) l → Calls Tryd.prog 15 #[.slice A len c] w fun e w' => ∃ v, e = .returned (.tuple #[v, .int .i64 U.2]) ∧ HoldsBytes w' v U.1 ∧ Below w.heap.size w w' := by
    subst hn hU; exact fun w h => unstuff_any A c l w h hlen
  have K17 : ∀ w, HoldsBytes w (.slice A len c) l → Calls Tryd.prog 17 #[.slice A len c] w fun e w' => ∃ v, e = .returned (.tuple #[v, .int .i64 U.2]) ∧ HoldsBytes w' v U.1 ∧ Below w.heap.size w w' := by
    subst hn hU; exact fun w h => runstuff_any A c l w h hlen
  have K13 : ∀ w, HoldsBytes w (.slice A len c) l → Calls Tryd.prog 13 #[.slice A len c] w fun e w' => ∃ v, e = .returned v ∧ HoldsBytes w' v L ∧ Below w.heap.size w w' := by
    subst hn hL; exact fun w h => stuff_any A c l w h hlen hlc hc
  have K18 : ∀ w, HoldsBytes w (.slice A len c) l → Calls Tryd.prog 18 #[.slice A len c] w fun e w' => ∃ v, e = .returned v ∧ HoldsBytes w' v L ∧ Below w.heap.size w w' := by
    subst hn hL
    exact fun w h => (rstuff_any A c l w h hlen).mono (by rintro e w' ⟨A', c', rfl, h1, h2⟩; exact ⟨_, rfl, h1, h2⟩)
  have K14 : ∀ w, HoldsBytes w (.slice A len c) l → Calls Tryd.prog 14 #[.slice A len c] w fun e w' => e = .returned (.int .i64 C) ∧ Below w.heap.size w w' := by
    subst hn hC; exact fun w h => extra_any A c l w h
  have K19 : ∀ w, HoldsBytes w (.slice A len c) l → Calls Tryd.prog 19 #[.slice A len c] w fun e w' => e = .returned (.int .i64 C) ∧ Below w.heap.size w w' := by
    subst hn hC; exact fun w h => rextra_any A c l w h hlen
  clear hn hU hL hC hlen hlc hc HU HL HC
  obtain ⟨UL, UN⟩ := U
  simp only at K15 K17
  have k15 := Lib.hid K15
  have k17 := Lib.hid K17
  have k13 := Lib.hid K13
  have k18 := Lib.hid K18
  have k14 := Lib.hid K14
  have k19 := Lib.hid K19
  clear K15 K17 K13 K18 K14 K19
  go_enter Tryd.func11, Tryd.ntmps11
  go_wp2_with fail
  refine (k15.out _ h).mono ?_
  rintro e w1 ⟨v1, rfl, hx, hb1⟩
  have h1 := holds_to h hb1
  go_wp2_with fail
  refine (k17.out _ h1).mono ?_
  rintro e w2 ⟨v2, rfl, hy, hb2⟩
  have h2 := holds_to h1 hb2
  have hx2 : HoldsBytes w2.drew _ _ := holds_to (w' := w2) hx hb2
  have h2 : HoldsBytes w2.drew _ _ := h2
  have hy2 : HoldsBytes w2.drew _ _ := hy
  have hb02 : Below W.heap.size W w2.drew := (hb1.trans (hb2.mono hb1.size)).drew
  clear hx hy hb1 hb2 h1
  go_wp2_with fail
  go_region_with (first
    | (go_at_call 13
       refine (k13.out _ h2).mono ?_
       rintro e w3 ⟨v3, rfl, hs3, hb3⟩
       have h3 := holds_to h2 hb3
       have hx3 := holds_to hx2 hb3
       have hy3 := holds_to hy2 hb3
       have hcv3 := convert_holds hs3
       have hb03 := hb02.trans (hb3.mono hb02.size)
       clear hb3 hb02)
    | (go_at_call 18
       refine (k18.out _ h3).mono ?_
       rintro e w4 ⟨v4, rfl, ht4, hb4⟩
       have h4 := holds_to h3 hb4
       have hx4 := holds_to hx3 hb4
       have hy4 := holds_to hy3 hb4
       have hcs4 := convert_holds (holds_to hs3 hb4)
       have hct4 := convert_holds ht4
       have hb04 := hb03.trans (hb4.mono hb03.size)
       clear hb4 hb03 hs3 ht4)
    | (go_at_call 14
       refine (k14.out _ h4).mono ?_
       rintro e w5 ⟨rfl, hb5⟩
       have h5 := holds_to h4 hb5
       have hx5 := holds_to hx4 hb5
       have hy5 := holds_to hy4 hb5
       have hb05 := hb04.trans (hb5.mono hb04.size)
       clear hb5 hb04)
    | (go_at_call 19
       refine (k19.out _ h5).mono ?_
       rintro e w6 ⟨rfl, hb6⟩
       have hcx := convert_holds (holds_to hx5 hb6)
       have hcy := convert_holds (holds_to hy5 hb6)
       have hb06 := hb05.trans (hb6.mono hb05.size)
       clear hb6 hb05))
  all_goals
    clear hcx hcy hcv3 hcs4 hct4
    go_simp
    go_wp2_with fail
    go_ret
    exact ⟨rfl, hb06⟩
end Go.Proofs.YtijnldbbibgjcaaDoor
