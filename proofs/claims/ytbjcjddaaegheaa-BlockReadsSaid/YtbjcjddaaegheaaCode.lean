/- (*reader).code: the first value whose code is there. -/
import Derived.Test.YtbjcjddaaegheaaReader
import Derived.StillTailTactics
namespace Go.Proofs.Ytbjcjddaaegheaa
open Go.RowKit

theorem run_index_arr2 {P : Program} (t e : TypeId) (n : Nat) (cs : Array Value) (k : IntKind) (i : Nat) (u v : Value) (h : P.underlying t = some (.array n e)) (hi : i < n) (hs : (P.info? e).map (·.size) = some 2) {d : TypeDesc} (hu : P.underlying e = some d) (hd : d.isRow = true)
    (hc0 : cs[i * 2]? = some u) (hc1 : cs[i * 2 + 1]? = some v) (W : World) :
    (Instr.index t (.agg cs) (.int k (i : Int))).run P W = .ok (.agg #[u, v]) W := by
  obtain ⟨ie, hie, hsz⟩ := Option.map_eq_some_iff.1 hs
  have hn : 0 ≤ (i : Int) ∧ (i : Int) < (n : Int) := by omega
  have hs1 : (sizeOf e).run P W = .ok 2 W := by simp [sizeOf, typeInfo, hie, hsz]
  have ha : (isAgg e).run P W = .ok true W := by
    unfold isAgg
    rw [Sem.run_bind, run_underlying hu W]
    cases d <;> simp_all [TypeDesc.isRow]
  simp [Instr.index, run_underlying h, asIntOf, hn, hs1, ha, hi, Result.andThen, go_sem]
  apply Array.ext_getElem?
  intro j
  have hsz2 : i * 2 + 1 < cs.size := by
    rcases Nat.lt_or_ge (i * 2 + 1) cs.size with h | h
    · exact h
    · rw [Array.getElem?_eq_none h] at hc1; cases hc1
  rw [Array.getElem?_extract]
  rcases j with _ | _ | j
  · rw [if_pos (by omega)]; simpa using hc0
  · rw [if_pos (by omega)]; simpa using hc1
  · rw [if_neg (by omega)]; simp
def hitB (bs : List Int) (at_ : Int) (f : Nat → Nat × Nat) (v : Nat) : Bool := decide (0 < (f v).1) && (peekR bs at_ (f v).1 == some ((f v).2 : Int))
def codeS (bs : List Int) (at_ : Int) (f : Nat → Nat × Nat) : Option Nat := (List.range 256).find? (hitB bs at_ f)
theorem codeS_some {bs : List Int} {at_ : Int} {f : Nat → Nat × Nat} {v : Nat} (h : codeS bs at_ f = some v) : v < 256 ∧ hitB bs at_ f v = true ∧ ∀ u, u < v → hitB bs at_ f u = false := by
  unfold codeS at h
  rw [List.find?_range_eq_some] at h
  obtain ⟨h1, h2, h3⟩ := h
  exact ⟨by simpa using h2, h1, fun u hu => by simpa using h3 u hu⟩
theorem codeS_none {bs : List Int} {at_ : Int} {f : Nat → Nat × Nat} (h : codeS bs at_ f = none) : ∀ u, u < 256 → hitB bs at_ f u = false := by
  unfold codeS at h
  rw [List.find?_eq_none] at h
  intro u hu
  simpa using h u (by simpa using hu)
theorem hitB_pos {bs : List Int} {at_ : Int} {f : Nat → Nat × Nat} {v : Nat} (h : hitB bs at_ f v = true) : 0 < (f v).1 ∧ peekR bs at_ (f v).1 = some ((f v).2 : Int) := by
  unfold hitB at h
  simpa using h

def Fits (f : Nat → Nat × Nat) : Prop := ∀ v, v < 256 → (f v).1 ≤ 16 ∧ (f v).2 ≤ 65535
theorem grownBy_but {a c : World} (h : a.grownBy c none) (row : Option Nat) : a.grownBy c row := ⟨h.os, h.tape, h.output, h.size, fun i hi _ => h.block i hi (by simp)⟩
attribute [local go_sem] peekV
attribute [local irreducible] wpStill
set_option maxRecDepth 100000 in
set_option maxHeartbeats 1000000 in
theorem code_any (g : Nat) (A : Option Addr) (c len : Nat) (bs : List Int) (at_ : Int) (f : Nat → Nat × Nat) (W : World) (hlen : bs.length = len) (hb : AreBytes bs) (hr : Reads W W.heap.size 1 A len (bytesV bs))
    (hl : len ≤ 140737488355328) (a0 : -9223372036854775808 ≤ at_) (a1 : at_ ≤ 9223372036854775807) (hg : Rd W g A len c at_) (hf : Fits f) :
    Calls Try.prog 39 #[.pointer (some ⟨g, 0, none⟩), .agg (codeC f)] W (fun e w' => match codeS bs at_ f with
      | some v => Took W g A len c (at_ + (f v).1) (.int .i64 v) e w'
      | none => Fell W g e w') := by
  have hz43 := size43 f
  have hat0 := codeC_n f
  have hat1 := codeC_v f
  obtain ⟨cc, hcc⟩ : ∃ cc, cc = codeC f := ⟨_, rfl⟩
  rw [← hcc] at hz43 hat0 hat1 ⊢
  have hbx := Blk.new W 43 cc
  have hg1 : Rd (W.alloc (.cells cc 43)) g A len c at_ := hg.alloc _
  have hgr := World.grownBy_alloc W (.cells cc 43) none
  have HAT0 := Lib.hid hat0
  have HAT1 := Lib.hid hat1
  have HCC := Lib.hid hcc
  have HR := Lib.hid hr
  have HB := Lib.hid hb
  have HF := Lib.hid hf
  have HLEN := Lib.hid hlen
  have hgl := hg.lt
  clear hcc hat0 hat1 hr hb hf hlen hg
  obtain ⟨R, hR⟩ : ∃ R, R = codeS bs at_ f := ⟨_, rfl⟩
  rw [← hR]
  have HRR := Lib.hid hR
  clear hR
  go_enter Try.func39, Try.ntmps39
  go_wp2_with (refine wpList_load_blk rfl 43 (.tmp 3) rfl W.heap.size rfl 43 _ _ hbx Try.underlying43 rfl hz43 ?_)
  go_loopw [10] (fun k (w : World) => ∃ i : Nat, i ≤ 256 ∧ k = .int .i64 i ∧ (∀ u, u < i → hitB bs at_ f u = false) ∧ Rd w g A len c at_ ∧ W.grownBy w none) (fun k _ => 256 - (intOf k).toNat)
  case atStart => exact ⟨0, by omega, rfl, fun u hu => absurd hu (by omega), hg1, hgr⟩
  case round =>
    obtain ⟨i, hi, rfl, hno, hg, hgr⟩ := hrel
    have HNO := Lib.hid hno
    clear hno hbx hz43 hg1
    by_cases hlt : i < 256
    · have hix := run_index_arr2 (P := Try.prog) 43 42 256 cc .i64 i _ _ Try.underlying43 hlt (by kernel_rfl) Try.underlying42 rfl (HAT0.out i hlt) (HAT1.out i hlt)
      obtain ⟨n0, v0⟩ := HF.out i hlt
      obtain ⟨N, hN⟩ : ∃ N, N = (f i).1 := ⟨_, rfl⟩
      obtain ⟨V, hV⟩ : ∃ V, V = (f i).2 := ⟨_, rfl⟩
      rw [← hN, ← hV] at hix
      rw [← hN] at n0
      rw [← hV] at v0
      have HN := Lib.hid hN
      have HV := Lib.hid hV
      clear hN hV
      have hp1 : wr.heap.size < (wr.alloc (.cells #[.int .i64 N, .int .i64 V] 42)).heap.size := by simp
      have hbk := Blk.new wr 42 #[.int .i64 N, .int .i64 V]
      have hgr2 : W.grownBy (wr.alloc (.cells #[.int .i64 N, .int .i64 V] 42)) none := hgr.trans (World.grownBy_alloc _ _ _)
      have hpk : ∀ m, Calls Try.prog 47 #[.slice A len c, .int .i64 at_, .int .i64 N] ((wr.alloc (.cells #[.int .i64 N, .int .i64 V] 42)).drewN m) fun e w' => e = .returned (peekV (peekR bs at_ N)) ∧ w' = (wr.alloc (.cells #[.int .i64 N, .int .i64 V] 42)).drewN m := fun m => by
        have hr2 : Reads ((wr.alloc (.cells #[.int .i64 N, .int .i64 V] 42)).drewN m) ((wr.alloc (.cells #[.int .i64 N, .int .i64 V] 42)).drewN m).heap.size 1 A len (bytesV bs) :=
          ((HR.out.grown hgr2 (Nat.le_refl _) (fun g e => by cases e)).more hgr2.size).drewN m
        exact (peek_any A c len bs at_ N _ HLEN.out HB.out hr2 hl a0 a1 (by omega) (by omega)).mono fun _ _ ⟨h1, h2⟩ => ⟨h1, h2.symm⟩
      have hhit : hitB bs at_ f i = (decide (0 < N) && (peekR bs at_ N == some (V : Int))) := by unfold hitB; rw [HN.out, HV.out]
      obtain ⟨P, hP⟩ : ∃ P, P = peekR bs at_ N := ⟨_, rfl⟩
      rw [← hP] at hpk hhit
      have hg2 : Rd (wr.alloc (.cells #[.int .i64 N, .int .i64 V] 42)) g A len c at_ := hg.alloc _
      have HP := Lib.hid hP
      have hx0 : (wr.alloc (.cells #[.int .i64 N, .int .i64 V] 42)).cell? ⟨g, 0, none⟩ = some (.slice A len c) := hg2.cell 0
      have hx1 : (wr.alloc (.cells #[.int .i64 N, .int .i64 V] 42)).cell? ⟨g, 1, none⟩ = some (.int .i64 at_) := hg2.cell 1
      have hy0 : (wr.alloc (.cells #[.int .i64 N, .int .i64 V] 42)).cell? ⟨wr.heap.size, 0, none⟩ = some (.int .i64 N) := hbk.cell 0
      have hy1 : (wr.alloc (.cells #[.int .i64 N, .int .i64 V] 42)).cell? ⟨wr.heap.size, 1, none⟩ = some (.int .i64 V) := hbk.cell 1
      have hgf := hg2.frozen 1
      clear hP
      have miss : ∀ w2 : World, hitB bs at_ f i = false → (wr.alloc (.cells #[.int .i64 N, .int .i64 V] 42)).grownBy w2 none → (∀ u, u < i + 1 → hitB bs at_ f u = false) ∧ Rd w2 g A len c at_ ∧ W.grownBy w2 none := fun w2 h1 h2 =>
        ⟨fun u hu => by rcases Nat.lt_or_ge u i with h | h
                        · exact HNO.out u h
                        · obtain rfl : u = i := by omega
                          exact h1, hg2.grown h2 (by simp), hgr2.trans h2⟩
      have MISS := Lib.hid miss
      have HHIT := Lib.hid hhit
      have HPK := Lib.hid hpk
      have hgk := Lib.hid hg2
      clear miss hhit hpk hg2 hg
      by_cases hN0 : 0 < N
      · rcases P with _ | x
        · have hm : hitB bs at_ f i = false := by rw [HHIT.out]; simp
          have HM := Lib.hid hm
          clear hm
          go_wp2_with fail
          go_quiet ((go_at_call 47; exact Calls.quiet_of_same (HPK.out _)))
          go_wp2_with fail
          go_roundw
          case rel => exact ⟨i + 1, by omega, by go_num, MISS.out _ HM.out (grownBy_drewN _ _ _)⟩
          case measure => simp [intOf]; omega
        · obtain ⟨x0, x1, _, _, b0, b1⟩ := peekR_bd HP.out.symm
          rw [HLEN.out] at b1
          by_cases hxv : x = (V : Int)
          · subst hxv
            have hh : hitB bs at_ f i = true := by rw [HHIT.out]; simp; omega
            have hR : R = some i := by
              rw [HRR.out]
              unfold codeS
              rw [List.find?_range_eq_some]
              exact ⟨hh, by simpa using hlt, fun u hu => by simpa using HNO.out u hu⟩
            subst hR
            have hgd : Rd (wr.alloc (.cells #[.int .i64 N, .int .i64 V] 42)) g A len c at_ := by
              have := MISS
              exact hgk.out
            clear hh
            go_wp2_with fail
            go_quiet ((go_at_call 47; exact Calls.quiet_of_same (HPK.out _)))
            go_wp2_with fail
            have hw5 := grownBy_drewN (wr.alloc (.cells #[.int .i64 N, .int .i64 V] 42)) nq none
            have hx1' : ((wr.alloc (.cells #[.int .i64 N, .int .i64 V] 42)).drewN nq).cell? ⟨g, 1, none⟩ = some (.int .i64 at_) := hx1
            have hy0' : ((wr.alloc (.cells #[.int .i64 N, .int .i64 V] 42)).drewN nq).cell? ⟨wr.heap.size, 0, none⟩ = some (.int .i64 N) := hy0
            have hgf' : ((wr.alloc (.cells #[.int .i64 N, .int .i64 V] 42)).drewN nq).frozen? ⟨g, 1, none⟩ = false := hgf
            have hgd' : Rd ((wr.alloc (.cells #[.int .i64 N, .int .i64 V] 42)).drewN nq) g A len c at_ := hgd.drewN nq
            have hgr3 := hgr2.trans hw5
            obtain ⟨w5, hw6⟩ : ∃ w5, (wr.alloc (.cells #[.int .i64 N, .int .i64 V] 42)).drewN nq = w5 := ⟨_, rfl⟩
            rw [hw6] at hx1' hy0' hgf' hgd' hgr3 ⊢
            clear hw6 hw5 hx0 hx1 hy0 hy1 hgf hgd
            go_still_tail 9, (by kernel_rfl)
            go_wp2_with fail
            go_ret
            exact ⟨rfl, (grownBy_but (hgr3.trans (grownBy_drew _ _)) _).trans (grownBy_set _ _ _ _), by rw [← HN.out]; exact (hgd'.drew).set_ 1 (.int .i64 (at_ + N))⟩
          · have hm : hitB bs at_ f i = false := by rw [HHIT.out]; simp; omega
            have hne : (x == (V : Int)) = false := by simpa using hxv
            have HM := Lib.hid hm
            clear hm
            go_wp2_with fail
            go_quiet ((go_at_call 47; exact Calls.quiet_of_same (HPK.out _)))
            go_wp2_with fail
            go_roundw
            case rel => exact ⟨i + 1, by omega, by go_num, MISS.out _ HM.out (grownBy_drewN _ _ _)⟩
            case measure => simp [intOf]; omega
      · have hN1 : (N : Int) ≤ 0 := by omega
        have hm : hitB bs at_ f i = false := by rw [HHIT.out]; simp; omega
        have HM := Lib.hid hm
        clear hm
        rcases P with _ | x
        · go_wp2_with fail
          go_quiet ((go_at_call 47; exact Calls.quiet_of_same (HPK.out _)))
          go_wp2_with fail
          go_roundw
          case rel => exact ⟨i + 1, by omega, by go_num, MISS.out _ HM.out (grownBy_drewN _ _ _)⟩
          case measure => simp [intOf]; omega
        · go_wp2_with fail
          go_quiet ((go_at_call 47; exact Calls.quiet_of_same (HPK.out _)))
          go_wp2_with fail
          go_roundw
          case rel => exact ⟨i + 1, by omega, by go_num, MISS.out _ HM.out (grownBy_drewN _ _ _)⟩
          case measure => simp [intOf]; omega
    · obtain rfl : i = 256 := by omega
      obtain rfl : R = none := by
        rw [HRR.out]
        unfold codeS
        rw [List.find?_eq_none]
        intro u hu
        simpa using HNO.out u (by simpa using hu)
      go_wp2_with fail
      exact ⟨rfl, rfl, grownBy_but hgr _⟩
end Go.Proofs.Ytbjcjddaaegheaa
