/- huff.laid: the iterator over a table's codes, for every loop body. -/
import Derived.Test.YtdkgficmodcolaaTab
import Derived.Test.YtdkgficmodcolaaRound
import Derived.Test.YtdkgficmodcolaaArrIn
import Derived.RangeFuncNested
import Derived.RangeFuncBound
import Derived.RangeFuncCalls
import Derived.RangeFuncLeaves
import Derived.RangeFuncBox
import Derived.Shelf.Abstract
import Derived.Shelf.RegionOpen
import Derived.OwnWalkIn
import Derived.TacticsInMore
import Derived.LoopNIn
import Derived.LoopIn
import Derived.Maps.AppendAt
import Derived.BigRegionIn
import Derived.RegionIn
namespace Go.Proofs.Ytdkgficmodcolaa
open Go.RowKit Go.Shelf
attribute [local go_sem] Oper.semAt_some

def lev (i : Nat) : Nat → Nat → Nat → List (Nat × Nat × Nat)
  | 0, _, _ => []
  | n + 1, at_, nx => (at_, i + 1, nx) :: lev i n (at_ + 1) (nx + 1)
def laidC : List Nat → Nat → Nat → Nat → List (Nat × Nat × Nat)
  | [], _, _, _ => []
  | n :: t, i, at_, nx => lev i n at_ (2 * nx) ++ laidC t (i + 1) (at_ + n) (2 * nx + n)
def encL (x : Nat × Nat × Nat) : Array Value := #[.int .i64 x.1, .agg #[.int .i64 x.2.1, .int .i64 x.2.2]]
def natsI (cn : List Nat) : List Int := cn.map Int.ofNat

set_option maxRecDepth 100000 in
set_option maxHeartbeats 1000000 in
theorem laid1_in (F : Fence) (n : Nat) (hf46 : F.fn 28) (hro : F.round = none) (hn : 1 ≤ n) (l g : Nat) (cn : List Nat) (v : Value) (hcn : cn.length = 16) (hbd : ∀ x ∈ cn, x ≤ 255) (J Jx : List (Nat × Nat × Nat) → World → Prop)
    (hY : ∀ pre x W, J pre W → x ∈ laidC cn 0 0 0 → pre.length < (laidC cn 0 0 0).length → YieldAt F (n - 1) Try.prog l (encL x) W fun e W' =>
      (e = .returned (.bool true) ∧ J (pre ++ [x]) W') ∨ (e = .returned (.bool false) ∧ Jx (pre ++ [x]) W'))
    (W : World) (hB : Blk W g 30 (tabCells (natsI cn) v)) (h0 : J [] W) :
    CallsIn F n Try.prog 28 #[.func (.yield l) #[] #[], .pointer (some ⟨g, 0, none⟩)] W fun e W' => (∃ v, e = .returned v) ∧
      ((∃ ys, ys = laidC cn 0 0 0 ∧ J ys W') ∨ (∃ pre, pre <+: laidC cn 0 0 0 ∧ Jx pre W')) := by
  have hrg : W.rangeAt g 0 (cn.map fun n => .int .i64 (n : Nat)) := hB.range 0 _ fun j u hu => by
    rw [List.getElem?_map] at hu
    obtain ⟨x, hx, rfl⟩ := Option.map_eq_some_iff.1 hu
    have hj := (List.getElem?_eq_some_iff.1 hx).1
    rw [Nat.zero_add, tabCells_at _ _ j (by simp [natsI]; omega)]
    simp only [natsI, List.getD_eq_getElem?_getD, List.getElem?_map, hx]; rfl
  have hi16 : (Try.prog.info? 28).map (·.size) = some (cn.map fun n => Value.int .i64 (n : Nat)).length := by
    rw [List.length_map, hcn]; kernel_rfl
  obtain ⟨arr, harr⟩ : ∃ arr, arr = (cn.map fun n => Value.int .i64 (n : Nat)).toArray := ⟨_, rfl⟩
  have hasz : arr.size = 16 := by rw [harr]; simp [hcn]
  have hat : ∀ i, i < 16 → arr[i]? = some (.int .i64 (cn.getD i 0 : Nat)) := fun i hi => by
    rw [harr, List.getElem?_toArray, List.getElem?_map, List.getElem?_eq_getElem (by omega), List.getD_eq_getElem?_getD, List.getElem?_eq_getElem (by omega)]; rfl
  have hdr : ∀ i, i < 16 → cn.drop i = cn.getD i 0 :: cn.drop (i + 1) := fun i hi => by
    rw [List.drop_eq_getElem_cons (by omega), List.getD_eq_getElem?_getD, List.getElem?_eq_getElem (by omega)]; rfl
  have HA := Lib.hid harr
  have hlast : cn.drop 16 = [] := List.drop_of_length_le (by omega)
  have hb : ∀ i, i < 16 → cn.getD i 0 ≤ 255 := fun i hi => by
    rw [List.getD_eq_getElem?_getD, List.getElem?_eq_getElem (by omega : i < cn.length)]
    exact hbd _ (List.getElem_mem _)
  obtain ⟨L, hL⟩ : ∃ L, L = laidC cn 0 0 0 := ⟨_, rfl⟩
  rw [← hL] at hY ⊢
  have hL0 : L = [] ++ laidC (cn.drop 0) 0 0 0 := by rw [hL]; rfl
  have HL0 := Lib.hid hL0
  have HAT := Lib.hid hat
  have HDR := Lib.hid hdr
  have HBD := Lib.hid hb
  have HLAST := Lib.hid hlast
  clear harr hat hdr hb hlast hL0 hL hbd hcn
  refine callsIn_of_wp Try.func28 rfl hf46 ?_ hro
  simp only [Try.ntmps28, List.size_toArray, List.length_cons, List.length_nil, Nat.reduceAdd, Nat.reduceSub, Array.replicate_succ, Array.replicate_zero, List.push_toArray, List.append_toArray, List.nil_append, List.cons_append]
  gi_wp2_with (refine wpListIn_load_mid rfl 28 (.tmp 7) rfl g 0 rfl _ _ hrg Try.underlying28 rfl hi16 ?_; rw [← HA.out])
  gi_loopw [3, 4, 9] (fun at_ nx ix wr => ∃ (i a b : Nat) (pre : List (Nat × Nat × Nat)), i ≤ 16 ∧ ix = .int .i64 i ∧ at_ = .int .i64 a ∧ nx = .int .i64 b ∧ a ≤ 255 * i ∧ b + 255 ≤ 255 * 2 ^ i ∧ L = pre ++ laidC (cn.drop i) i a b ∧ J pre wr) (fun _ _ ix _ => 16 - (intOf ix).toNat)
  case atStart => exact ⟨0, 0, 0, [], by omega, rfl, rfl, rfl, by omega, by simp, HL0.out, h0⟩
  case round =>
    obtain ⟨i, a, b, pre, hi, rfl, rfl, rfl, ha, hb, hLp, hJ⟩ := hrel
    have HLp := Lib.hid hLp
    clear hLp
    have p1 : 2 ^ i ≤ 2 ^ 16 := Nat.pow_le_pow_right (by omega) hi
    by_cases hlt : i < 16
    · have hx := HAT.out i hlt
      have hL2 := HLp.out
      rw [HDR.out i hlt, laidC] at hL2
      have hbd := HBD.out i hlt
      obtain ⟨c, hc⟩ : ∃ c, c = cn.getD i 0 := ⟨_, rfl⟩
      rw [← hc] at hx hL2 hbd
      clear hc
      have hix := run_index_arr (P := Try.prog) 28 3 16 arr .i64 i _ Try.underlying28 hlt (by kernel_rfl) (k' := .i64) (by kernel_rfl) hx
      have HL2 := Lib.hid hL2
      have p2 : 2 ^ (i + 1) = 2 * 2 ^ i := by rw [Nat.pow_succ]; omega
      have P2 := Lib.hid p2
      clear hL2 hx p2
      have hd16 : decide ((i : Int) < 16) = true := by simp; omega
      have hb2 : 2 * b + c + 255 ≤ 255 * 2 ^ (i + 1) := by rw [P2.out]; omega
      have HB2 := Lib.hid hb2
      clear hb2
      gi_wp2
      gi_loopw [3, 4, 16] (fun at_ nx k wr => ∃ (m a' b' : Nat) (pre' : List (Nat × Nat × Nat)), m ≤ c ∧ k = .int .i64 ((c - m : Nat) : Int) ∧ at_ = .int .i64 a' ∧ nx = .int .i64 b' ∧ a' + m = a + c ∧ b' + m = 2 * b + c ∧ L = pre' ++ (lev i m a' b' ++ laidC (cn.drop (i + 1)) (i + 1) (a + c) (2 * b + c)) ∧ J pre' wr) (fun _ _ k _ => c - (intOf k).toNat)
      case atStart => exact ⟨c, a, 2 * b, pre, by omega, by simp, rfl, by go_num, rfl, rfl, HL2.out, hJ⟩
      case round =>
        obtain ⟨m, a', b', pre', hm, rfl, rfl, rfl, ham, hbm, hLp', hJ'⟩ := hrel
        have HLp' := Lib.hid hLp'
        clear hLp'
        cases m with
        | zero =>
          simp only [Nat.add_zero] at ham hbm
          have hL3 := HLp'.out
          rw [lev, List.nil_append, ← ham, ← hbm] at hL3
          have HL3 := Lib.hid hL3
          have HAM := Lib.hid ham
          have HBM := Lib.hid hbm
          clear hL3 ham hbm
          gi_wp2
          go_roundw
          case rel => exact ⟨i + 1, a', b', pre', by omega, by go_num, rfl, rfl, by have := HAM.out; omega, by have := HBM.out; have := HB2.out; omega, HL3.out, hJ'⟩
          case measure => simp [intOf]; omega
        | succ m =>
          have hL3 := HLp'.out
          rw [lev] at hL3
          have hlt2 : pre'.length < L.length := by rw [hL3]; simp
          have hYx := hY pre' (a', i + 1, b') wr hJ' (by rw [hL3]; simp) hlt2
          have he : encL (a', i + 1, b') = #[.int .i64 a', .agg #[.int .i64 ((i : Int) + 1), .int .i64 b']] := by simp [encL]
          rw [he] at hYx
          obtain ⟨fn, tmps, assign, body, hy, hRd⟩ := hYx
          have HL3 := Lib.hid hL3
          have e5 : ((c - (m + 1) : Nat) : Int) < (c : Int) := by omega
          have HAM := Lib.hid ham
          have HBM := Lib.hid hbm
          clear hL3 he HLp'
          have hb3 : b' ≤ 67108864 := by omega
          have ha3 : a' ≤ 8192 := by omega
          clear ham hbm
          gi_wp2
          refine hRd.mono ?_
          rintro e W3 (⟨rfl, hJ3⟩ | ⟨rfl, hJx3⟩)
          · gi_wp2
            go_round
            case rel =>
              refine ⟨m, a' + 1, b' + 1, pre' ++ [(a', i + 1, b')], by omega, ?_, by go_num, by go_num, by have := HAM.out; omega, by have := HBM.out; omega, by rw [List.append_assoc]; exact HL3.out, hJ3⟩
              congr 1; omega
            case measure => simp [intOf]; omega
          · gi_wp2
            refine bodyPost_ret (results_none rfl _ _ _) rfl ?_
            exact ⟨⟨_, rfl⟩, .inr ⟨_, ⟨lev i m (a' + 1) (b' + 1) ++ laidC (cn.drop (i + 1)) (i + 1) (a + c) (2 * b + c), by rw [List.append_assoc]; exact HL3.out.symm⟩, hJx3⟩⟩
    · obtain rfl : i = 16 := by omega
      have hL2 := HLp.out
      rw [HLAST.out, laidC, List.append_nil] at hL2
      gi_wp2
      go_end0
      exact ⟨⟨_, rfl⟩, .inl ⟨_, rfl, by rw [hL2]; exact hJ⟩⟩
end Go.Proofs.Ytdkgficmodcolaa
