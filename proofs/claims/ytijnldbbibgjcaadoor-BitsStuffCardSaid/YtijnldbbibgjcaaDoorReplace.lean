/- bytes.Replace at 'every ff by ff 00'; bits.Stuff: the stuffed bytes, in new memory; nothing that lay has turned. Condition: no more than 2^40 bytes. -/
import Derived.Test.YtijnldbbibgjcaaDoorStuffMath
import Derived.StillTailTactics
import Derived.Deep.LoopGhost
import Derived.Deep.OwnRows
import Derived.Deep.RegionLaw
namespace Go.Proofs.YtijnldbbibgjcaaDoor
open Go.RowKit
open Go.Lib (numsL bytesOf HoldsBytes)

theorem step_copy_eq {P : Program} {ops : Array Oper} {o : Oper} {a : Act} {w : World} {K : Act → World → Prop} {Q : Exit → Act → World → Prop} {E : Prop}
    (hg : o.guard = none) (d x : Operand) (dT sT : TypeId) (hop : o.op = Op.call { callee := Callee.builtin Builtin.copy, args := #[d, x], argTypes := #[dT, sT] })
    (v u : Value) (hd : a.eval d = v) (hx : a.eval x = u) {v' : Value} {w' : World} (hr : (Builtin.copy_ #[dT, sT] o.type #[v, u]).run P w = .ok v' w') (hK : K (a.put o.dst v') w') :
    if Region.wanted o (yielded ops a.tmps) = true then Oper.wp P o a w K Q else E := by
  have hw : Region.wanted o (yielded ops a.tmps) = true := by simp [Region.wanted, hg]
  rw [if_pos hw]
  unfold Oper.wp
  simp [execOp, hop, resolve, invoke, builtin, hd, hx, hr, Result.andThen]
  exact hK

theorem sizeOf5 (w : World) : (Go.sizeOf 5).run Tryd.prog w = .ok 1 w := by kernel_rfl
theorem size5 : (Tryd.prog.info? 5).map (·.size) = some 1 := by kernel_rfl

set_option maxRecDepth 100000 in
set_option maxHeartbeats 1000000 in
theorem replace_none (A : Option Addr) (c : Nat) (l : List UInt8) (b2 b3 d2 d3 : Nat) (w : World) (h : HoldsBytes w (.slice A l.length c) l) (hlen : l.length ≤ 1099511627776)
    (h2 : w.cell? ⟨b2, 0, none⟩ = some (.int .u8 255)) (h0 : l.count 255 = 0) :
    Calls Tryd.prog 23 #[.slice A l.length c, .slice (some ⟨b2, 0, none⟩) 1 d2, .slice (some ⟨b3, 0, none⟩) 2 d3, .int .i64 (-1)] w fun e w' => ∃ v, e = .returned v ∧ HoldsBytes w' v (stuffU l) ∧ Below w.heap.size w w' := by
  obtain ⟨ii, hi, hz0, hz1, hz2⟩ := info_parts info5
  have H0 := Lib.hid h0
  clear h0
  go_enter Tryd.func23, Tryd.ntmps23
  go_wp2_with (first
    | (go_at_call 21; refine (count_any A c l b2 d2 _ h h2).mono ?_; rintro e w' ⟨rfl, rfl⟩; rw [H0.out])
    | (at_builtin
       refine wpList_append_any _ rfl _ _ 22 rfl w.heap.size 5 ii (.int .u8 0) 1 1 Tryd.underlying22 hi hz0 hz1 hz2 rfl (by decide) (.slice none 0 0) 0 [] rfl
         ⟨by simp, .inl ⟨rfl, rfl⟩⟩ w.heap.size A l.length c (bytesV (numsL l)) rfl (reads_of_holds h) (by intro u hu; obtain ⟨x, _, rfl⟩ := List.mem_map.1 hu; rfl) (by simp only [maxLen]; omega) (by omega) (Nat.le_refl _) ?_
       intro v1 w1 hown1 hg1 hat1))
  go_ret
  refine ⟨v1, rfl, ?_, (Below.refl _ _).grown hg1 (Nat.le_refl _) (by simp [Value.ownBlock])⟩
  rw [stuffU_none l H0.out]
  exact holds_own (base := w.heap.size) (e := 5) (by simpa using hown1)

set_option maxRecDepth 100000 in
set_option maxHeartbeats 1000000 in
theorem replace_some (a : Addr) (c : Nat) (l : List UInt8) (b2 b3 d2 d3 : Nat) (w : World) (h : HoldsBytes w (.slice (some a) l.length c) l) (hlen : l.length ≤ 1099511627776) (hlc : l.length ≤ c) (hc : c ≤ 9223372036854775807)
    (h2 : w.cell? ⟨b2, 0, none⟩ = some (.int .u8 255)) (h3 : HoldsBytes w (.slice (some ⟨b3, 0, none⟩) 2 d3) [255, 0]) (h0 : 0 < l.count 255) :
    Calls Tryd.prog 23 #[.slice (some a) l.length c, .slice (some ⟨b2, 0, none⟩) 1 d2, .slice (some ⟨b3, 0, none⟩) 2 d3, .int .i64 (-1)] w fun e w' => ∃ v, e = .returned v ∧ HoldsBytes w' v (stuffU l) ∧ Below w.heap.size w w' := by
  obtain ⟨m, hm⟩ : ∃ m, m = l.count 255 := ⟨_, rfl⟩
  have hml : m ≤ l.length := by rw [hm]; exact List.count_le_length
  have HM := Lib.hid hm
  rw [← hm] at h0
  clear hm
  have hm0 : ((m : Int) == 0) = false := by simp; omega
  have hmk := run_make_row' (P := Tryd.prog) 22 5 (.int .u8 0) 1 Tryd.underlying22 info5 rfl .i64 .i64 (l.length + m) (by omega) (by omega)
  simp only [Int.natCast_add] at hmk
  go_enter Tryd.func23, Tryd.ntmps23
  go_wp2_with (go_at_call 21; refine (count_any (some a) c l b2 d2 _ h h2).mono ?_; rintro e w' ⟨rfl, rfl⟩; rw [← HM.out])
  have B0 := Lib.hid (buf_made w (l.length + m))
  have hb0 : Below w.heap.size w (w.alloc (.cells (madeCells #[.int .u8 0] (l.length + m)) 5)) := (Below.refl _ _).alloc (Nat.le_refl _) _
  clear hmk
  go_loopw [11, 12, 49] (fun sw ss sc wr => ∃ (j st : Nat) (acc : List UInt8), j ≤ m ∧ sc = .int .i64 j ∧ ss = .int .i64 st ∧ sw = .int .i64 acc.length ∧ st ≤ l.length ∧ acc.length ≤ l.length + m ∧ Hid (acc = stuffU (l.take st)) ∧ Hid ((l.drop st).count 255 + j = m) ∧
      Hid (Lib.Buf w wr w.heap.size (l.length + m) acc)) (fun _ _ sc _ => m - (intOf sc).toNat)
  case atStart => exact ⟨0, 0, [], by omega, rfl, rfl, rfl, by omega, by simp, Lib.hid rfl, Lib.hid (by rw [List.drop_zero, ← HM.out]; rfl), B0⟩
  case round =>
    obtain ⟨j, st, acc, hj, rfl, rfl, rfl, hst, haccN, hacc, hcnt, HB⟩ := hrel
    have hsl1 : ∀ W, (Instr.slice 22 (.slice (some ⟨w.heap.size, 0, none⟩) (l.length + m) (l.length + m)) (some (.int .i64 (acc.length : Int))) none none).run Tryd.prog W = .ok (Lib.tailV w.heap.size (l.length + m) acc.length) W :=
      fun W => Lib.run_slice_tailV W 22 5 Tryd.underlying22 sizeOf5 _ (l.length + m) acc.length haccN
    have hsl2 : ∀ W, (Instr.slice 22 (.slice (some a) l.length c) (some (.int .i64 (st : Int))) none none).run Tryd.prog W = .ok (cutV a l.length c st) W :=
      fun W => run_slice_cutV W 22 5 Tryd.underlying22 sizeOf5 a l.length c st hst
    by_cases hlt : j < m
    · obtain ⟨k, hk1, hk2, hk3, hk4⟩ := indexByte_at (l.drop st) (by have := hcnt.out; omega)
      rw [List.length_drop] at hk2
      have hpl : ((l.drop st).take k).length = k := by rw [List.length_take, List.length_drop]; omega
      have hsum : acc.length + k + 2 ≤ l.length + m := by
        have h1 := stuffU_split l st k hk2 hk3 hk4
        have h2 := stuffU_length (l.take (st + k + 1))
        have h3 := congrArg List.length h1
        rw [List.length_append, List.length_append, hpl, ← hacc.out] at h3
        have h4 : (l.take (st + k + 1)).count 255 ≤ l.count 255 := (List.take_sublist _ _).count_le _
        have h5 : (l.take (st + k + 1)).length ≤ l.length := by rw [List.length_take]; omega
        rw [← HM.out] at h4
        simp at h3
        omega
      have hsl3 : ∀ W, (Instr.slice 22 (.slice (some a) l.length c) (some (.int .i64 (st : Int))) (some (.int .i64 ((st : Int) + (k : Int)))) none).run Tryd.prog W = .ok (midV a c st (st + k)) W := fun W => by
        have := run_slice_midV (P := Tryd.prog) W 22 5 Tryd.underlying22 sizeOf5 a l.length c st (st + k) (by omega) (by omega)
        simpa only [Int.natCast_add] using this
      have hsl4 : ∀ W, (Instr.slice 22 (.slice (some ⟨w.heap.size, 0, none⟩) (l.length + m) (l.length + m)) (some (.int .i64 ((acc.length : Int) + (k : Int)))) none none).run Tryd.prog W = .ok (Lib.tailV w.heap.size (l.length + m) (acc.length + k)) W := fun W => by
        have := Lib.run_slice_tailV (P := Tryd.prog) W 22 5 Tryd.underlying22 sizeOf5 w.heap.size (l.length + m) (acc.length + k) (by omega)
        simpa only [Int.natCast_add] using this
      have hmid := holds_mid h st (st + k) (by omega) (by omega) hlc
      rw [Nat.add_sub_cancel_left] at hmid
      have BD : Lib.Buf w wr.drew w.heap.size (l.length + m) acc := ⟨HB.out.below.drew, HB.out.there, HB.out.free, HB.out.holds, HB.out.fits⟩
      obtain ⟨w2, hr2, B2⟩ := Lib.copy_part (P := Tryd.prog) w wr.drew w.heap.size (l.length + m) acc ((l.drop st).take k) (midV a c st (st + k)) 22 3 5 Tryd.underlying22 size5 (Nat.le_refl _) BD hmid (by rw [hpl]; omega)
      obtain ⟨w3, hr3, B3⟩ := Lib.copy_part (P := Tryd.prog) w w2 w.heap.size (l.length + m) (acc ++ (l.drop st).take k) [255, 0] (.slice (some ⟨b3, 0, none⟩) 2 d3) 22 3 5 Tryd.underlying22 size5 (Nat.le_refl _) B2 h3 (by rw [List.length_append, hpl]; simp; omega)
      rw [hpl] at hr2
      rw [List.length_append, hpl] at hr3
      have HB3 := Lib.hid B3
      have HK := Lib.hid hk1
      have HK3 := Lib.hid hk3
      have HK4 := Lib.hid hk4
      have HPL := Lib.hid hpl
      have hix := index_cut (c := c) (b2 := b2) (d := d2) h st hst hlc wr (HB.out.below.cell (p := ⟨b2, 0, none⟩) (World.block_lt_of_cell? w _ h2) ▸ h2) (holds_below (holds_cut h st hst hlc) HB.out.below (Nat.le_refl _))
      have HIX := Lib.hid hix
      clear hk1 hk3 hk4 hpl B2 B3 BD hmid hix
      go_wp2_with (go_at_call 26; refine (HIX.out).mono ?_; rintro e w' ⟨rfl, rfl⟩; rw [HK.out])
      have hwk : IntKind.i64.wrap ((acc.length : Int) + (k : Int)) = (acc.length : Int) + (k : Int) := by rw [IntKind.wrap_i64]; omega
      go_region_law (first | (refine step_copy_eq (v := Lib.tailV w.heap.size (l.length + m) acc.length) (u := midV a c st (st + k)) (w := wr.drew) (v' := .int .i64 (k : Int)) (w' := w2) rfl (.tmp 61) (.tmp 65) 22 22 rfl ?hd ?hx ?hr ?_; (case hd => go_simp); (case hx => go_simp); (case hr => (exact hr2))))
      clear hwk
      go_simp
      go_wp2_with (at_builtin; refine Lib.wpList_copy_run _ rfl _ _ 22 22 rfl _ _ rfl rfl hr3 ?_)
      go_roundw
      case rel =>
        refine ⟨j + 1, st + k + 1, acc ++ (l.drop st).take k ++ [255, 0], by omega, by go_num, by go_num, ?_, by omega, ?_, ?_, ?_, HB3⟩
        · have := HPL.out
          rw [List.length_append, List.length_append, this]; go_num
        · rw [List.length_append, List.length_append, HPL.out]; simpa using hsum
        · have h1 := stuffU_split l st k hk2 HK3.out HK4.out
          exact Lib.hid (by rw [h1, ← hacc.out])
        · have h1 := count_split l st k hk2 HK3.out HK4.out
          have := hcnt.out
          exact Lib.hid (by omega)
      case measure => simp [intOf]; omega
    · obtain rfl : j = m := by omega
      obtain ⟨r, hr⟩ : ∃ r, r = (l.drop st).length := ⟨_, rfl⟩
      have hc0 : (l.drop st).count 255 = 0 := by have := hcnt.out; omega
      have hstuff : stuffU l = acc ++ l.drop st := by
        have e := (List.take_append_drop st l).symm
        rw [hacc.out]
        conv => lhs; rw [e]
        rw [stuffU_append, stuffU_none _ hc0]
      have hN : acc.length + r = l.length + j := by
        have h1 := congrArg List.length hstuff
        rw [stuffU_length, List.length_append, ← HM.out, ← hr] at h1
        omega
      have BD : Lib.Buf w wr.drew w.heap.size (l.length + j) acc := ⟨HB.out.below.drew, HB.out.there, HB.out.free, HB.out.holds, HB.out.fits⟩
      obtain ⟨w2, hr2, B2⟩ := Lib.copy_part (P := Tryd.prog) w wr.drew w.heap.size (l.length + j) acc (l.drop st) (cutV a l.length c st) 22 3 5 Tryd.underlying22 size5 (Nat.le_refl _) BD (holds_cut h st hst hlc) (by rw [← hr]; omega)
      rw [← hr] at hr2
      have hsl5 : ∀ W, (Instr.slice 22 (.slice (some ⟨w.heap.size, 0, none⟩) (l.length + j) (l.length + j)) (some (.int .i64 0)) (some (.int .i64 ((acc.length : Int) + (r : Int)))) none).run Tryd.prog W = .ok (.slice (some ⟨w.heap.size, 0, none⟩) (l.length + j) (l.length + j)) W := fun W => by
        have := run_slice_midV (P := Tryd.prog) W 22 5 Tryd.underlying22 sizeOf5 ⟨w.heap.size, 0, none⟩ (l.length + j) (l.length + j) 0 (acc.length + r) (by omega) (by omega)
        rw [show midV ⟨w.heap.size, 0, none⟩ (l.length + j) 0 (acc.length + r) = .slice (some ⟨w.heap.size, 0, none⟩) (l.length + j) (l.length + j) from by
          unfold midV cutA
          rw [hN]
          split <;> simp [Addr.add]] at this
        simpa only [Int.natCast_add, Int.natCast_zero] using this
      have hwk : IntKind.i64.wrap ((acc.length : Int) + (r : Int)) = (acc.length : Int) + (r : Int) := by rw [IntKind.wrap_i64]; omega
      have HN := Lib.hid hN
      have HS := Lib.hid hstuff
      have HR := Lib.hid hr
      have HB2 := Lib.hid B2
      clear hN hstuff hr B2 BD hc0
      go_wp2
      go_region_law (first | (refine step_copy_eq (v := Lib.tailV w.heap.size (l.length + j) acc.length) (u := cutV a l.length c st) (w := wr.drew) (v' := .int .i64 (r : Int)) (w' := w2) rfl (.tmp 123) (.tmp 126) 22 22 rfl ?hd ?hx ?hr ?_; (case hd => go_simp); (case hx => go_simp); (case hr => (exact hr2))))
      clear hwk
      go_simp
      go_wp2
      go_ret
      have hfin := HB2.out
      rw [← HS.out] at hfin
      have hlen2 : (stuffU l).length = l.length + j := by rw [stuffU_length, ← HM.out]
      exact ⟨_, rfl, holds_buf hfin hlen2, hfin.below⟩

theorem replace_any (A : Option Addr) (c : Nat) (l : List UInt8) (b2 b3 d2 d3 : Nat) (w : World) (h : HoldsBytes w (.slice A l.length c) l) (hlen : l.length ≤ 1099511627776) (hlc : l.length ≤ c) (hc : c ≤ 9223372036854775807)
    (h2 : w.cell? ⟨b2, 0, none⟩ = some (.int .u8 255)) (h3 : HoldsBytes w (.slice (some ⟨b3, 0, none⟩) 2 d3) [255, 0]) :
    Calls Tryd.prog 23 #[.slice A l.length c, .slice (some ⟨b2, 0, none⟩) 1 d2, .slice (some ⟨b3, 0, none⟩) 2 d3, .int .i64 (-1)] w fun e w' => ∃ v, e = .returned v ∧ HoldsBytes w' v (stuffU l) ∧ Below w.heap.size w w' := by
  rcases Nat.eq_zero_or_pos (l.count 255) with h0 | h0
  · exact replace_none A c l b2 b3 d2 d3 w h hlen h2 h0
  · cases A with
    | none => obtain rfl := holds_nil h; simp at h0
    | some a => exact replace_some a c l b2 b3 d2 d3 w h hlen hlc hc h2 h3 h0

theorem replaceAll_any (A : Option Addr) (c : Nat) (l : List UInt8) (b2 b3 d2 d3 : Nat) (w : World) (h : HoldsBytes w (.slice A l.length c) l) (hlen : l.length ≤ 1099511627776) (hlc : l.length ≤ c) (hc : c ≤ 9223372036854775807)
    (h2 : w.cell? ⟨b2, 0, none⟩ = some (.int .u8 255)) (h3 : HoldsBytes w (.slice (some ⟨b3, 0, none⟩) 2 d3) [255, 0]) :
    Calls Tryd.prog 20 #[.slice A l.length c, .slice (some ⟨b2, 0, none⟩) 1 d2, .slice (some ⟨b3, 0, none⟩) 2 d3] w fun e w' => ∃ v, e = .returned v ∧ HoldsBytes w' v (stuffU l) ∧ Below w.heap.size w w' := by
  go_enter Tryd.func20, Tryd.ntmps20
  go_wp2_with fail
  refine (replace_any A c l b2 b3 d2 d3 _ h hlen hlc hc h2 h3).mono ?_
  rintro e w' ⟨v, rfl, hv, hb2⟩
  go_wp2_with fail
  go_ret
  exact ⟨v, rfl, hv, hb2⟩

theorem stuff_any (A : Option Addr) (c : Nat) (l : List UInt8) (w : World) (h : HoldsBytes w (.slice A l.length c) l) (hlen : l.length ≤ 1099511627776) (hlc : l.length ≤ c) (hc : c ≤ 9223372036854775807) :
    Calls Tryd.prog 13 #[.slice A l.length c] w fun e w' => ∃ v, e = .returned v ∧ HoldsBytes w' v (stuffU l) ∧ Below w.heap.size w w' := by
  have hb : Below w.heap.size w ((w.alloc (.cells #[.int .u8 255] 5)).alloc (.cells #[.int .u8 255, .int .u8 0] 5)) := ((Below.refl _ w).alloc (Nat.le_refl _) _).alloc (by simp) _
  have h3 : HoldsBytes ((w.alloc (.cells #[.int .u8 255] 5)).alloc (.cells #[.int .u8 255, .int .u8 0] 5)) (.slice (some ⟨w.heap.size + 1, 0, none⟩) 2 2) [255, 0] := by
    refine ⟨some ⟨w.heap.size + 1, 0, none⟩, 2, rfl, (fun e => by cases e), fun a ea i x hx => ?_⟩
    injection ea with ea
    rw [← ea]
    match i, hx with
    | 0, hx => simp at hx; subst hx; simp [Addr.add]
    | 1, hx => simp at hx; subst hx; simp [Addr.add]
  go_enter Tryd.func13, Tryd.ntmps13
  go_wp2_with fail
  refine (replaceAll_any A c l w.heap.size (w.heap.size + 1) 1 2 _ (holds_below h hb (Nat.le_refl _)) hlen hlc hc (by simp) h3).mono ?_
  rintro e w' ⟨v, rfl, hv, hb2⟩
  go_wp2_with fail
  go_ret
  exact ⟨v, rfl, hv, hb.trans (hb2.mono (by simp; omega))⟩
end Go.Proofs.YtijnldbbibgjcaaDoor
