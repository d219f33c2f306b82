/- law11.OptimLeast is true. -/
import Derived.Test.YtdkgficmodcolaaLaw3
import Derived.BigQuiet
namespace Go.Proofs.Ytdkgficmodcolaa
open Go.RowKit

theorem cost_bd {cn ys : List Nat} {l : List Int} {r : Int} (hl : cn.length = 16) (h : CostR (lenN cn ys) (weightsS l) r) : -1 ≤ r ∧ r ≤ 4294967296 := by
  by_cases hex : ∃ v, v < 256 ∧ 0 < (weightsS l).getD v 0 ∧ lenN cn ys v = 0
  · rw [h.no hex]; decide
  · have hr := h.all fun v h1 h2 h3 => hex ⟨v, h1, h2, h3⟩
    have h0 : 0 ≤ r := by rw [hr]; exact sm_nonneg fun i _ => Int.mul_nonneg (weightsS_bd l i).1 (by omega)
    have h1 := sm_le (f := fun v => (weightsS l).getD v 0 * (lenN cn ys v : Int)) (g := fun _ => 16777216) (n := 256) fun i _ => by
      have := Int.mul_le_mul (weightsS_bd l i).2 (Int.ofNat_le.2 (codesF_bd (natsI cn) (valsI ys) (by rw [natsI_len]; exact hl) i)) (by omega) (by decide)
      exact Int.le_trans this (by decide)
    have e : sm (fun _ => 16777216) 256 = 4294967296 := by decide +kernel
    rw [hr]
    rw [hr] at h0
    omega
set_option maxRecDepth 100000 in
set_option maxHeartbeats 2000000 in
theorem least_walk (A : Option Addr) (cap len : Nat) (cs : List Int) (B : Option Addr) (capB lenB : Nat) (ds : List Int) (k : Nat) (W : World) (hcl : cs.length = len) (hcb : AreBytes cs) (hr : Reads W W.heap.size 1 A len (bytesV cs)) (hl : len ≤ 9223372036854775807)
    (hdl : ds.length = lenB) (hdb : AreBytes ds) (hdr : Reads W W.heap.size 1 B lenB (bytesV ds)) (hl2 : lenB ≤ 9223372036854775807) (hk : k ≤ 255) :
    Calls Try.prog 3 #[.slice A len cap, .slice B lenB capB, .int .u8 k] W fun e w' => e = .returned (.bool true) ∧ Below W.heap.size W w' := by
  have KO := Lib.hid (often_any A cap len cs k W hcl hcb hr hl hk)
  have KD := Lib.hid (fun w (h : Below W.heap.size W w) => often_any B capB lenB ds (k / 4) w hdl hdb ((hdr.below h).more h.size) hl2 (by omega))
  have hz30 := zero30
  obtain ⟨z30, hz30'⟩ : ∃ z, z = tabCells (List.replicate 16 0) (.slice none 0 0) := ⟨_, rfl⟩
  rw [← hz30'] at hz30
  have HZ30 := Lib.hid hz30'
  obtain ⟨q, hq⟩ : ∃ q, q = k / 4 := ⟨_, rfl⟩
  have eq4 : (k : Int) / 4 = (q : Int) := by omega
  have eq5 : (k : Int).tdiv 4 = (q : Int) := by rw [Int.tdiv_eq_ediv_of_nonneg (by omega)]; exact eq4
  have hq64 : q ≤ 64 := by omega
  rw [← hq] at KD
  clear hcl hcb hr hdl hdb hdr hz30' hq
  go_enter Try.func3, Try.ntmps3
  go_wp2_with fail
  go_at_call 7
  refine KO.out.mono ?_
  rintro e w1 ⟨v, l, rfl, hown, htm, hll, hb1⟩
  obtain ⟨A1, c1, rfl, hla⟩ := own_list hown htm hll
  have KS := Lib.hid (sizesW_any A1 c1 l.length l w1 hla.hl hla.wf hla.rd hla.le)
  have HTM := Lib.hid htm
  obtain ⟨n, hn⟩ : ∃ n, n = l.length := ⟨_, rfl⟩
  rw [← hn] at KS hla hll ⊢
  have HLA := Lib.hid hla
  clear hown htm hla hn KO
  go_wp2_with fail
  go_at_call 8
  refine KS.out.mono ?_
  rintro e w2 ⟨R, g, rfl, hok, hB, hb2⟩
  have hla2 := HLA.out.below hb2
  have hbe2 := hb1.trans (hb2.mono hb1.size)
  have HB := Lib.hid hB
  have HLA2 := Lib.hid hla2
  have HOK := Lib.hid hok
  have HBE := Lib.hid hbe2
  have KAT := Lib.hid (fun (m i nq : Nat) (hi : i ≤ 1000) => Calls.quiet_of_same (w := w2.drewN m) (n := nq) ((at_any A1 c1 n l i ((w2.drewN m).drewN nq) hla2.hl hla2.wf ((hla2.rd.drewN m).drewN nq) hla2.le hi).mono fun e w' h => ⟨h.1, h.2.symm⟩))
  clear hok hB hb2 hla2 hbe2 hb1 KS HLA
  go_wp2_with fail
  go_loopw [9, 10] (fun v9 v10 (w : World) => ∃ (i m : Nat) (s : Int), i ≤ 256 ∧ v10 = .int .i64 i ∧ v9 = .int .i64 s ∧ 0 ≤ s ∧ s ≤ 15728640 * i ∧ s = sm (fun i => R.getD i 0 * (weightsS l).getD i 0) i ∧ (∀ j, j < i → R.getD j 0 ≤ 15) ∧ w = w2.drewN m) (fun _ v10 _ => 256 - (intOf v10).toNat)
  case atStart => exact ⟨0, 0, 0, by omega, rfl, rfl, by omega, by omega, rfl, fun j hj => by omega, rfl⟩
  case round =>
    obtain ⟨i, m, s, hi, rfl, rfl, s0, s1, hs, hall, rfl⟩ := hrel
    have HS := Lib.hid hs
    have HALL := Lib.hid hall
    clear hs hall
    by_cases hlt : i < 256
    · have c1' : (w2.drewN m).cell? ⟨g, i, none⟩ = some (.int .i64 (R.getD i 0)) := ((HB.out.drewN m).cell i).trans (intsC_at R i (by rw [HOK.out.len]; omega))
      have r0 := HOK.out.nn i
      obtain ⟨hw, w0, w1⟩ := weights_at HTM.out (i := i) hlt
      have hKA := fun nq => KAT.out m i nq (by omega)
      have hbm : Below W.heap.size W (w2.drewN m) := HBE.out.trans (below_drewN (Nat.le_refl _) m)
      have hmn : min (l.getD i 0) 1048576 = l.getD i 0 := by omega
      have hHS : s + R.getD i 0 * l.getD i 0 = sm (fun i => R.getD i 0 * (weightsS l).getD i 0) (i + 1) := by rw [sm, ← HS.out, hw]
      have HHS := Lib.hid hHS
      obtain ⟨x, hx⟩ : ∃ x, x = R.getD i 0 := ⟨_, rfl⟩
      rw [← hx] at c1' r0 HHS
      obtain ⟨y, hy⟩ : ∃ y, y = l.getD i 0 := ⟨_, rfl⟩
      rw [← hy] at hmn w0 w1 hKA HHS
      obtain ⟨r0, r1⟩ := r0
      have HX := Lib.hid hx
      have HKA := Lib.hid hKA
      obtain ⟨wm, hwm⟩ : ∃ wm, wm = w2.drewN m := ⟨_, rfl⟩
      rw [← hwm] at c1' HKA hbm ⊢
      have HWM := Lib.hid hwm
      clear hx hy hw hHS hKA hwm
      by_cases h15 : 15 < x
      · go_wp2_with fail
        go_at_call 9
        refine (known_any _).mono ?_
        rintro e w9 ⟨rfl, hb9⟩
        go_wp2_with fail
        go_ret
        exact ⟨rfl, hbm.trans (hb9.mono hbm.size)⟩
      · have hp0 : 0 ≤ x * y := Int.mul_nonneg r0 w0
        have hp1 : x * y ≤ 15728640 := by
          have := Int.mul_le_mul (show x ≤ 15 by omega) w1 w0 (by decide)
          exact Int.le_trans this (by decide)
        have hil : (i : Int) < 256 := by omega
        go_wp2_with fail
        go_quiet (first | (go_at_call 10; exact HKA.out _))
        clear HKA c1' hbm
        go_wp2_with fail
        go_roundw
        case rel => exact ⟨i + 1, m + nq, s + x * y, by omega, by go_num, rfl, by omega, by omega, HHS.out, fun j hj => by
          by_cases e : j = i
          · subst e; rw [← HX.out]; omega
          · exact HALL.out j (by omega), by rw [HWM.out, World.drewN_drewN]⟩
        case measure => simp [intOf]; omega
    · obtain rfl : i = 256 := by omega
      have hbm : Below W.heap.size W (w2.drewN m) := HBE.out.trans (below_drewN (Nat.le_refl _) m)
      have hlam : ListAt (w2.drewN m) l A1 n := HLA2.out.below (below_drewN (Nat.le_refl _) m)
      have HBM := Lib.hid hbm
      have HLAM := Lib.hid hlam
      generalize w2.drewN m = w3 at *
      clear hbm hlam
      have KBL := Lib.hid (fun w (h : ListAt w l A1 n) => best_walk A1 c1 n l w h)
      go_wp2_with fail
      go_at_call 7
      refine (KD.out _ HBM.out).mono ?_
      rintro e w4 ⟨v, l2, rfl, hown, htm, hll2, hb4⟩
      obtain ⟨A2, c2, rfl, hl2a⟩ := own_list hown htm hll2
      have hbe4 := HBM.out.trans (hb4.mono HBM.out.size)
      have hla4 := HLAM.out.below hb4
      have KB2 := Lib.hid (best_walk A2 c2 l2.length l2 w4 hl2a)
      obtain ⟨n2, hn2⟩ : ∃ n2, n2 = l2.length := ⟨_, rfl⟩
      rw [← hn2] at KB2 hll2 ⊢
      have HLA4 := Lib.hid hla4
      have HBE4 := Lib.hid hbe4
      clear hown htm hl2a hn2 hb4 hla4 hbe4 KD
      go_wp2_with fail
      go_at_call 11
      refine KB2.out.mono ?_
      rintro e w5 ⟨cn', ys', A3, c3, rfl, ht', hb5⟩
      obtain ⟨R', hok'⟩ := ht'.ex
      have hce := cells_of hok'.len A3 ys'.length c3
      have KC1 := Lib.hid (fun w (h : TabAtW w (weightsS l2) cn' ys' A3) (h2 : ListAt w l A1 n) => cost_walk (weightsS l2) cn' ys' A3 c3 A1 n c1 l w h h2)
      obtain ⟨cells, hcells⟩ : ∃ cells, cells = tabCells (natsI cn') (.slice A3 ys'.length c3) := ⟨_, rfl⟩
      rw [← hcells] at hce KC1 ⊢
      have hs30 := hce.sz
      have HO30 := Lib.hid hce.one
      have HA30 := Lib.hid hce.as0
      rw [← HZ30.out] at HA30
      have HT' := Lib.hid ht'
      have HOK' := Lib.hid hok'
      have hbe5 := HBE4.out.trans (hb5.mono HBE4.out.size)
      have hla5 := HLA4.out.below hb5
      have HBE5 := Lib.hid hbe5
      have HLA5 := Lib.hid hla5
      have hb5' : Below w5.heap.size w5 (w5.alloc (.cells z30 30)) := (Below.refl _ _).alloc (Nat.le_refl _) _
      have hB5 := Blk.new w5 30 z30
      clear hce hcells ht' hok' hbe5 hla5 hb5 KB2 HLA4 HBE4 HBM HLAM
      go_wp2_with (first
        | (refine wpList_store_blk rfl 30 (.tmp 11) (.tmp 46) rfl w5.heap.size rfl 30 _ _ rfl hB5 hs30 HA30.out HO30.out ?_
           intro w6 hR6 hg6 hs6
           have hb6 := hb5'.grown hg6 hb5'.size (fun k e => by injection e with e; omega)
           have hbe6 := HBE5.out.trans (hb6.mono HBE5.out.size)
           have ht6 := HT'.out.below hb6
           have hla6 := HLA5.out.below hb6
           clear hs6 hg6 hb6)
        | (refine wpList_load_blk rfl 30 (.tmp 11) rfl w5.heap.size rfl 30 _ _ hR6 Try.underlying30 rfl hs30 ?_)
        | (go_at_call 12
           refine (cost_walk _ cn ys A4 c4 A1 n c1 l _ ht8 hla8).mono ?_
           rintro e w9 ⟨own, rfl, hown, hb9⟩
           have hbe9 := hbe8.trans (hb9.mono hbe8.size)
           obtain ⟨R2, hok2⟩ := ht8.ex
           clear hb9 hbe8 ht8 hla8)
        | (go_at_call 12
           refine (KC1.out _ ht6 hla6).mono ?_
           rintro e w7 ⟨cost, rfl, hcost, hb7⟩
           have hla7 := hla6.below hb7
           have hbe7 := hbe6.trans (hb7.mono hbe6.size)
           have HCO := Lib.hid hcost
           clear hb7 hla6 ht6 hR6 hbe6 hcost)
        | (go_at_call 11
           refine (KBL.out _ hla7).mono ?_
           rintro e w8 ⟨cn, ys, A4, c4, rfl, ht8, hb8⟩
           have hla8 := hla7.below hb8
           have hbe8 := hbe7.trans (hb8.mono hbe7.size)
           clear hla7 hb8 hbe7))
      have e2 := HOK.out.same hok2.ok
      subst e2
      have hfin := least (fun i => (weightsS_bd l i).1) hok2 HALL.out HOK'.out hown HCO.out
      rw [← HS.out] at hfin
      obtain ⟨f1, f2, f3⟩ := hfin
      obtain ⟨d1, d2⟩ := cost_bd HOK'.out.len HCO.out
      clear hok2 hown HALL HS hi hlt
      by_cases hneg : cost < 0
      · go_wp2_with (go_at_call 9; refine (known_any _).mono ?_; rintro e w10 ⟨rfl, hb10⟩)
        go_ret
        exact ⟨rfl, hbe9.trans (hb10.mono hbe9.size)⟩
      · have hle : own ≤ cost + 15 := by omega
        have hneg2 : decide (cost < 0) = false := by simp; omega
        clear f3
        go_wp2_with (go_at_call 9; refine (known_any _).mono ?_; rintro e w10 ⟨rfl, hb10⟩)
        go_ret
        exact ⟨rfl, hbe9.trans (hb10.mono hbe9.size)⟩
theorem least_row (A : Option Addr) (len cap : Nat) (zs : List Int) (B : Option Addr) (lenB capB : Nat) (ys : List Int) (k : Int) (W : World) (h : IsRow .u8 W A len cap zs) (hB : IsRow .u8 W B lenB capB ys) (hk : (Lit.int .u8 k).wf = true) :
    Calls Try.prog 3 #[.slice A len cap, .slice B lenB capB, .int .u8 k] W fun e w' => e = .returned (.bool true) ∧ Below W.heap.size W w' := by
  obtain ⟨bs, h1, h2, h3, h4, h5⟩ := row_reads h
  obtain ⟨ds, g1, g2, g3, g4, g5⟩ := row_reads hB
  have := bounds_u8 hk
  obtain ⟨kn, rfl⟩ : ∃ n : Nat, k = n := ⟨k.toNat, by omega⟩
  exact least_walk A cap len bs B capB lenB ds kn W h1 h4 h5 (by unfold maxLen at h3; omega) g1 g4 g5 (by unfold maxLen at g3; omega) (by omega)
end Go.Proofs.Ytdkgficmodcolaa
