/- The reference's code: the first value whose code is there. -/
import Derived.Test.YtbjcjddaaegheaaRR
namespace Go.Proofs.Ytbjcjddaaegheaa
open Go.RowKit

theorem below_drewN {B : Nat} {w w' : World} (h : Below B w w') (n : Nat) (hB : B ≤ w'.heap.size) : Below B w (w'.drewN n) := h.grown (grownBy_drewN w' n none) hB (fun k e => by cases e)
structure Rs (W : World) (A : Option Addr) (len c : Nat) (at_ : Int) (ok : Bool) (cc : Array Value) (zs : Array Value) (w : World) : Prop where
  r : Blk w W.heap.size 70 #[.slice A len c, .int .i64 at_, .bool ok]
  c : Blk w (W.heap.size + 1) 43 cc
  z : Blk w (W.heap.size + 1 + 1) 70 zs
  b : Below W.heap.size W w
theorem Rs.end_ {W w : World} {A : Option Addr} {len c : Nat} {at_ : Int} {ok : Bool} {cc zs : Array Value} (h : Rs W A len c at_ ok cc zs w) (hz : zs.size = 3) (a : Int) (o : Bool) (fn : Func) (hfn : fn.results = #[.cell 4 70, .tmp 5]) (tmps : Array Value) (v : Int) (hp : tmps.getD 4 undef = .pointer (some ⟨W.heap.size + 1 + 1, 0, none⟩)) (hq : tmps.getD 5 undef = .int .i64 v) :
    (results fn tmps).run Try.prog (((w.setCell ⟨W.heap.size + 1 + 1, 0, none⟩ (.slice A len c)).setCell ⟨W.heap.size + 1 + 1, 1, none⟩ (.int .i64 a)).setCell ⟨W.heap.size + 1 + 1, 2, none⟩ (.bool o)) =
      .ok (.tuple #[rV A len c a o, .int .i64 v]) (((w.setCell ⟨W.heap.size + 1 + 1, 0, none⟩ (.slice A len c)).setCell ⟨W.heap.size + 1 + 1, 1, none⟩ (.int .i64 a)).setCell ⟨W.heap.size + 1 + 1, 2, none⟩ (.bool o)) := by
  have hB := ((h.z.set_ 0 (.slice A len c)).set_ 1 (.int .i64 a)).set_ 2 (.bool o)
  have e : ((zs.setIfInBounds 0 (.slice A len c)).setIfInBounds 1 (.int .i64 a)).setIfInBounds 2 (.bool o) = #[.slice A len c, .int .i64 a, .bool o] := by
    apply Array.ext_getElem?
    intro i
    simp only [Array.getElem?_setIfInBounds, Array.size_setIfInBounds, hz]
    rcases i with _ | _ | _ | i
    · simp
    · simp
    · simp
    · have : zs[i + 1 + 1 + 1]? = none := Array.getElem?_eq_none (by omega)
      simp [this]
  rw [e] at hB
  have := results_blk_tmp (P := Try.prog) hfn tmps _ (W.heap.size + 1 + 1) 70 _ _ hp hB Try.underlying70 rfl (by kernel_rfl)
  rw [hq] at this
  exact this
theorem Rs.endb {W w : World} {A : Option Addr} {len c : Nat} {at_ : Int} {ok : Bool} {cc zs : Array Value} (h : Rs W A len c at_ ok cc zs w) (a : Int) (o : Bool) : Below W.heap.size W (((w.setCell ⟨W.heap.size + 1 + 1, 0, none⟩ (.slice A len c)).setCell ⟨W.heap.size + 1 + 1, 1, none⟩ (.int .i64 a)).setCell ⟨W.heap.size + 1 + 1, 2, none⟩ (.bool o)) :=
  ((h.b.setCell (p := ⟨W.heap.size + 1 + 1, 0, none⟩) (by simp; omega) _).setCell (p := ⟨W.heap.size + 1 + 1, 1, none⟩) (by simp; omega) _).setCell (p := ⟨W.heap.size + 1 + 1, 2, none⟩) (by simp; omega) _
theorem Rs.setr {W w : World} {A : Option Addr} {len c : Nat} {at_ : Int} {ok : Bool} {cc zs : Array Value} (h : Rs W A len c at_ ok cc zs w) (a : Int) : Rs W A len c a ok cc zs (w.setCell ⟨W.heap.size, 1, none⟩ (.int .i64 a)) :=
  ⟨h.r.set_ 1 _, h.c.far (by simp) _, h.z.far (by simp; omega) _, h.b.setCell (p := ⟨W.heap.size, 1, none⟩) (by simp) _⟩
theorem Rs.seto {W w : World} {A : Option Addr} {len c : Nat} {at_ : Int} {ok : Bool} {cc zs : Array Value} (h : Rs W A len c at_ ok cc zs w) (o : Bool) : Rs W A len c at_ o cc zs (w.setCell ⟨W.heap.size, 2, none⟩ (.bool o)) :=
  ⟨h.r.set_ 2 _, h.c.far (by simp) _, h.z.far (by simp; omega) _, h.b.setCell (p := ⟨W.heap.size, 2, none⟩) (by simp) _⟩
theorem Rs.drew {W w : World} {A : Option Addr} {len c : Nat} {at_ : Int} {ok : Bool} {cc zs : Array Value} (h : Rs W A len c at_ ok cc zs w) : Rs W A len c at_ ok cc zs w.drew := ⟨h.r.drew, h.c.drew, h.z.drew, h.b.drew⟩
theorem Rs.drewN {W w : World} {A : Option Addr} {len c : Nat} {at_ : Int} {ok : Bool} {cc zs : Array Value} (h : Rs W A len c at_ ok cc zs w) (n : Nat) : Rs W A len c at_ ok cc zs (w.drewN n) := ⟨h.r.drewN n, h.c.drewN n, h.z.drewN n, below_drewN h.b n h.b.size⟩
attribute [local go_sem] peekV
attribute [local irreducible] wpStill
set_option maxRecDepth 100000 in
set_option maxHeartbeats 2000000 in
theorem rcode_any (A : Option Addr) (c len : Nat) (bs : List Int) (at_ : Int) (ok : Bool) (f : Nat → Nat × Nat) (W : World) (hlen : bs.length = len) (hb : AreBytes bs) (hr : Reads W W.heap.size 1 A len (bytesV bs))
    (hl : len ≤ 140737488355328) (a0 : -9223372036854775808 ≤ at_) (a1 : at_ ≤ 9223372036854775807) (hf : Fits f) :
    Calls Try.prog 33 #[rV A len c at_ ok, .agg (codeC f)] W (RPost A len c W (rcodeS bs at_ ok f)) := by
  have hz : ∀ w, (zeroValue 70).run Try.prog w = .ok (.agg #[.slice none 0 0, .int .i64 0, .bool false]) w := fun w => by kernel_rfl
  have hat0 := codeC_n f
  have hat1 := codeC_v f
  have hpk : ∀ w N, Below W.heap.size W w → N ≤ 16 → ∀ m, Calls Try.prog 43 #[.slice A len c, .int .i64 at_, .int .i64 (N : Nat)] (w.drewN m) fun e w' => e = .returned (peekV (peekR bs at_ (N : Nat))) ∧ w' = w.drewN m := fun w N hw hN m => by
    have hb2 : Below W.heap.size W (w.drewN m) := below_drewN hw m hw.size
    exact (rpeek_any A c len bs at_ (N : Nat) (w.drewN m) hlen hb ((hr.below hb2).more hb2.size) hl a0 a1 (by omega) (by omega)).mono fun _ _ ⟨h1, h2⟩ => ⟨h1, h2.symm⟩
  obtain ⟨cc, hcc⟩ : ∃ cc, cc = codeC f := ⟨_, rfl⟩
  rw [← hcc] at hat0 hat1 ⊢
  have e1 : (W.alloc (.cells #[.slice A len c, .int .i64 at_, .bool ok] 70)).heap.size = W.heap.size + 1 := by simp
  have e2 : ((W.alloc (.cells #[.slice A len c, .int .i64 at_, .bool ok] 70)).alloc (.cells cc 43)).heap.size = W.heap.size + 1 + 1 := by simp
  have hst : Rs W A len c at_ ok cc #[.slice none 0 0, .int .i64 0, .bool false] (((W.alloc (.cells #[.slice A len c, .int .i64 at_, .bool ok] 70)).alloc (.cells cc 43)).alloc (.cells #[.slice none 0 0, .int .i64 0, .bool false] 70)) := by
    refine ⟨((Blk.new W 70 _).alloc _).alloc _, ?_, ?_, (((Below.refl _ _).alloc (Nat.le_refl _) _).alloc (by omega) _).alloc (by omega) _⟩
    · have := (Blk.new (W.alloc (.cells #[.slice A len c, .int .i64 at_, .bool ok] 70)) 43 cc).alloc (.cells #[.slice none 0 0, .int .i64 0, .bool false] 70)
      rwa [e1] at this
    · have := Blk.new ((W.alloc (.cells #[.slice A len c, .int .i64 at_, .bool ok] 70)).alloc (.cells cc 43)) 70 #[.slice none 0 0, .int .i64 0, .bool false]
      rwa [e2] at this
  obtain ⟨R, hR⟩ : ∃ R, R = rcodeS bs at_ ok f := ⟨_, rfl⟩
  rw [← hR]
  have HAT0 := Lib.hid hat0
  have HAT1 := Lib.hid hat1
  have HPK := Lib.hid hpk
  have HF := Lib.hid hf
  have HLEN := Lib.hid hlen
  have HRR := Lib.hid hR
  clear hat0 hat1 hpk hf hlen hR hcc e1 e2 hb hr
  unfold rV
  go_enter Try.func33, Try.ntmps33
  go_wp2_with fail
  go_loopw [6] (fun k (w : World) => ∃ i : Nat, i ≤ 256 ∧ k = .int .i64 i ∧ (∀ u, u < i → hitB bs at_ f u = false) ∧ Rs W A len c at_ ok cc #[.slice none 0 0, .int .i64 0, .bool false] w) (fun k _ => 256 - (intOf k).toNat)
  case atStart => exact ⟨0, by omega, rfl, fun u hu => absurd hu (by omega), hst⟩
  case round =>
    obtain ⟨i, hi, rfl, hno, hst⟩ := hrel
    have HNO := Lib.hid hno
    clear hno
    have c0 : wr.cell? ⟨W.heap.size, 0, none⟩ = some (.slice A len c) := hst.r.cell 0
    have c1 : wr.cell? ⟨W.heap.size, 1, none⟩ = some (.int .i64 at_) := hst.r.cell 1
    have c2 : wr.cell? ⟨W.heap.size, 2, none⟩ = some (.bool ok) := hst.r.cell 2
    have d0 : wr.cell? ⟨W.heap.size + 1 + 1, 0, none⟩ = some (.slice none 0 0) := hst.z.cell 0
    have d1 : wr.cell? ⟨W.heap.size + 1 + 1, 1, none⟩ = some (.int .i64 0) := hst.z.cell 1
    have d2 : wr.cell? ⟨W.heap.size + 1 + 1, 2, none⟩ = some (.bool false) := hst.z.cell 2
    have f0 := hst.z.frozen 0
    have f1 := hst.z.frozen 1
    have f2 := hst.z.frozen 2
    have g1 := hst.r.frozen 1
    have g2 := hst.r.frozen 2
    by_cases hlt : i < 256
    · obtain ⟨n0, v0⟩ := HF.out i hlt
      have k0 : wr.cell? ⟨W.heap.size + 1, i * 2, none⟩ = some (.int .i64 (f i).1) := by rw [hst.c.cell]; exact HAT0.out i hlt
      have k1 : wr.cell? ⟨W.heap.size + 1, i * 2 + 1, none⟩ = some (.int .i64 (f i).2) := by rw [hst.c.cell]; exact HAT1.out i hlt
      obtain ⟨N, hN⟩ : ∃ N, N = (f i).1 := ⟨_, rfl⟩
      obtain ⟨V, hV⟩ : ∃ V, V = (f i).2 := ⟨_, rfl⟩
      rw [← hN] at n0 k0
      rw [← hV] at v0 k1
      have hpk := HPK.out wr N hst.b n0
      have hhit : hitB bs at_ f i = (decide (0 < N) && (peekR bs at_ N == some (V : Int))) := by unfold hitB; rw [hN, hV]
      obtain ⟨P, hP⟩ : ∃ P, P = peekR bs at_ N := ⟨_, rfl⟩
      rw [← hP] at hpk hhit
      have HN := Lib.hid hN
      have HV := Lib.hid hV
      have HP := Lib.hid hP
      have miss : ∀ n, hitB bs at_ f i = false → (∀ u, u < i + 1 → hitB bs at_ f u = false) ∧ Rs W A len c at_ ok cc #[.slice none 0 0, .int .i64 0, .bool false] (wr.drewN n) := fun n h1 =>
        ⟨fun u hu => by rcases Nat.lt_or_ge u i with h | h
                        · exact HNO.out u h
                        · obtain rfl : u = i := by omega
                          exact h1, ⟨hst.r.drewN n, hst.c.drewN n, hst.z.drewN n, below_drewN hst.b n hst.b.size⟩⟩
      have MISS := Lib.hid miss
      have HHIT := Lib.hid hhit
      have HPK2 := Lib.hid hpk
      clear hN hV hP miss hhit hpk
      have t0 : (0 : Int) ≤ (i : Int) := Int.natCast_nonneg _
      have t1 : (i : Int) < 256 := by omega
      by_cases hN0 : 0 < N
      · rcases P with _ | x
        · have hm : hitB bs at_ f i = false := by rw [HHIT.out]; simp
          have HM := Lib.hid hm
          clear hm
          go_wp2_with fail
          go_quiet ((go_at_call 43; exact Calls.quiet_of_same (HPK2.out _)))
          go_wp2_with fail
          go_roundw
          case rel => exact ⟨i + 1, by omega, by go_num, MISS.out _ HM.out⟩
          case measure => simp [intOf]; omega
        · obtain ⟨x0, x1, _, _, b0, b1⟩ := peekR_bd HP.out.symm
          rw [HLEN.out] at b1
          by_cases hxv : x = (V : Int)
          · subst hxv
            have hh : hitB bs at_ f i = true := by rw [HHIT.out]; simp; omega
            have hcs : codeS bs at_ f = some i := by
              unfold codeS
              rw [List.find?_range_eq_some]
              exact ⟨hh, by simpa using hlt, fun u hu => by simpa using HNO.out u hu⟩
            obtain rfl : R = (at_ + N, ok, (i : Int)) := by rw [HRR.out]; unfold rcodeS; rw [hcs, HN.out]
            clear hh hcs
            go_wp2_with fail
            go_quiet ((go_at_call 43; exact Calls.quiet_of_same (HPK2.out _)))
            go_wp2_with fail
            have hst2 := hst.drewN nq
            obtain ⟨w5, hw6⟩ : ∃ w5, wr.drewN nq = w5 := ⟨_, rfl⟩
            rw [hw6] at hst2 ⊢
            clear hw6 hst c0 c1 c2 d0 d1 d2 f0 f1 f2 g1 g2
            have c0 : w5.cell? ⟨W.heap.size, 0, none⟩ = some (.slice A len c) := hst2.r.cell 0
            have c1 : w5.cell? ⟨W.heap.size, 1, none⟩ = some (.int .i64 at_) := hst2.r.cell 1
            have c2 : w5.cell? ⟨W.heap.size, 2, none⟩ = some (.bool ok) := hst2.r.cell 2
            have d0 : w5.cell? ⟨W.heap.size + 1 + 1, 0, none⟩ = some (.slice none 0 0) := hst2.z.cell 0
            have d1 : w5.cell? ⟨W.heap.size + 1 + 1, 1, none⟩ = some (.int .i64 0) := hst2.z.cell 1
            have d2 : w5.cell? ⟨W.heap.size + 1 + 1, 2, none⟩ = some (.bool false) := hst2.z.cell 2
            have f0 := hst2.z.frozen 0
            have f1 := hst2.z.frozen 1
            have f2 := hst2.z.frozen 2
            have g1 := hst2.r.frozen 1
            have k0' : w5.cell? ⟨W.heap.size + 1, i * 2, none⟩ = some (.int .i64 N) := by rw [hst2.c.cell, HAT0.out i hlt, ← HN.out]
            go_still_tail 8, (by kernel_rfl)
            go_wp2_with fail
            exact bodyPost_ret (v := .tuple #[rV A len c (at_ + N) ok, .int .i64 i]) ((hst2.drew.setr (at_ + N)).end_ rfl (at_ + N) ok _ rfl _ i rfl rfl) rfl ⟨rfl, (hst2.drew.setr (at_ + N)).endb (at_ + N) ok⟩
          · have hm : hitB bs at_ f i = false := by rw [HHIT.out]; simp; omega
            have hne : (x == (V : Int)) = false := by simpa using hxv
            have HM := Lib.hid hm
            clear hm
            go_wp2_with fail
            go_quiet ((go_at_call 43; exact Calls.quiet_of_same (HPK2.out _)))
            go_wp2_with fail
            go_roundw
            case rel => exact ⟨i + 1, by omega, by go_num, MISS.out _ HM.out⟩
            case measure => simp [intOf]; omega
      · have hN1 : (N : Int) ≤ 0 := by omega
        have hm : hitB bs at_ f i = false := by rw [HHIT.out]; simp; omega
        have HM := Lib.hid hm
        clear hm
        rcases P with _ | x
        all_goals
          go_wp2_with fail
          go_quiet ((go_at_call 43; exact Calls.quiet_of_same (HPK2.out _)))
          go_wp2_with fail
          go_roundw
          case rel => exact ⟨i + 1, by omega, by go_num, MISS.out _ HM.out⟩
          case measure => simp [intOf]; omega
    · obtain rfl : i = 256 := by omega
      have hcn : codeS bs at_ f = none := by
        unfold codeS
        rw [List.find?_eq_none]
        intro u hu
        simpa using HNO.out u (by simpa using hu)
      obtain rfl : R = (at_, false, 0) := by rw [HRR.out]; unfold rcodeS; rw [hcn]
      clear hcn
      go_wp2_with fail
      exact bodyPost_ret (v := .tuple #[rV A len c at_ false, .int .i64 0]) ((hst.seto false).end_ rfl at_ false _ rfl _ 0 rfl rfl) rfl ⟨rfl, (hst.seto false).endb at_ false⟩
end Go.Proofs.Ytbjcjddaaegheaa
