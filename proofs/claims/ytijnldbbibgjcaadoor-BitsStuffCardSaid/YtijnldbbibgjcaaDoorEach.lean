/- bits.each: the iterator over the bits of codes: for every loop body that keeps what lay below a block and every block of a code's own type. -/
import Derived.Test.YtijnldbbibgjcaaDoorPeek
import Derived.RangeFuncNested
import Derived.RangeFuncBound
import Derived.RangeFuncCalls
import Derived.RangeFuncLeaves
import Derived.RangeFuncBox
import Derived.Shelf.Abstract
import Derived.Shelf.RegionOpen
import Derived.OwnWalkIn
import Derived.TacticsInMore
import Derived.LoopNIn
import Derived.LoopIn
import Derived.Maps.AppendAt
namespace Go.Proofs.YtijnldbbibgjcaaDoor
open Go.RowKit Go.Shelf
attribute [local go_sem] Oper.semAt_some

def bI (b : Bool) : Int := if b then 1 else 0
theorem bI_bd (b : Bool) : 0 ≤ bI b ∧ bI b ≤ 1 := by cases b <;> decide
def clipN (n : Int) : Nat := (max 0 (min n 32)).toNat
def topBits (v : Int) : Nat → List Bool
  | 0 => []
  | k + 1 => decide (v / 2 ^ k % 2 = 1) :: topBits v k
theorem topBits_length (v : Int) (k : Nat) : (topBits v k).length = k := by induction k with | zero => rfl | succ k ih => simp [topBits, ih]
def codesBits (cs : List (Int × Int)) : List Bool := cs.flatMap fun c => topBits c.2 (clipN c.1)
def codeV (c : Int × Int) : List Value := [.int .i64 c.1, .int .i64 c.2]
def codesV (cs : List (Int × Int)) : List Value := cs.flatMap codeV
theorem codesV_length (cs : List (Int × Int)) : (codesV cs).length = cs.length * 2 := by
  induction cs with
  | nil => rfl
  | cons c cs ih => simp [codesV, codeV] at ih ⊢; omega
theorem codesV_at (cs : List (Int × Int)) (i : Nat) (c : Int × Int) (h : cs[i]? = some c) : (codesV cs)[i * 2]? = some (.int .i64 c.1) ∧ (codesV cs)[i * 2 + 1]? = some (.int .i64 c.2) := by
  induction cs generalizing i with
  | nil => simp at h
  | cons d cs ih =>
    cases i with
    | zero => simp at h; subst h; simp [codesV, codeV]
    | succ i =>
      simp at h
      obtain ⟨a, b⟩ := ih i h
      have e : (codesV (d :: cs)) = codeV d ++ codesV cs := by simp [codesV]
      rw [e]
      have e1 : (i + 1) * 2 = i * 2 + 2 := by omega
      constructor
      · rw [e1, List.getElem?_append_right (by simp [codeV])]; simpa [codeV] using a
      · rw [e1, List.getElem?_append_right (by simp [codeV])]; simpa [codeV] using b
theorem codesBits_snoc (cs : List (Int × Int)) (i : Nat) (c : Int × Int) (h : cs[i]? = some c) : codesBits (cs.take (i + 1)) = codesBits (cs.take i) ++ topBits c.2 (clipN c.1) := by
  have hi : i < cs.length := by
    rcases Nat.lt_or_ge i cs.length with h1 | h1
    · exact h1
    · rw [List.getElem?_eq_none h1] at h; cases h
  have hc : cs[i] = c := by rw [List.getElem?_eq_getElem hi] at h; exact Option.some.inj h
  rw [List.take_succ_eq_append_getElem hi, codesBits, List.flatMap_append, hc]
  simp [codesBits]
def WfCodes (cs : List (Int × Int)) : Prop := ∀ c ∈ cs, (Lit.int .i64 c.1).wf = true ∧ (Lit.int .i64 c.2).wf = true

theorem codesBits_le (cs : List (Int × Int)) (k : Nat) : (codesBits (cs.take k)).length ≤ (codesBits cs).length := by
  have e : codesBits cs = codesBits (cs.take k) ++ codesBits (cs.drop k) := by
    unfold codesBits; rw [← List.flatMap_append, List.take_append_drop]
  rw [e, List.length_append]; omega
theorem codesBits_pre (cs : List (Int × Int)) (k : Nat) : codesBits (cs.take k) <+: codesBits cs := by
  refine ⟨codesBits (cs.drop k), ?_⟩
  unfold codesBits; rw [← List.flatMap_append, List.take_append_drop]
theorem i64_and1 (n : Int) : bits .and .i64 n 1 = n % 2 := by
  have h1 : (BitVec.ofInt 64 1).toNat = 2 ^ 1 - 1 := by decide
  have key : (BitVec.ofInt 64 n &&& BitVec.ofInt 64 1).toNat = (n % ((2 ^ 64 : Nat) : Int)).toNat % 2 ^ 1 := by
    rw [BitVec.toNat_and, BitVec.toNat_ofInt, h1, Nat.and_two_pow_sub_one_eq_mod]
  show IntKind.i64.wrap ((BitVec.ofInt 64 n &&& BitVec.ofInt 64 1).toNat : Nat) = n % 2
  rw [key, IntKind.wrap_i64]
  omega
theorem bounds_i64 {n : Int} (h : (Lit.int .i64 n).wf = true) : -9223372036854775808 ≤ n ∧ n ≤ 9223372036854775807 := by
  simp only [Lit.wf, IntKind.min, IntKind.max, IntKind.signed, IntKind.bits, Bool.and_eq_true, decide_eq_true_eq, if_true] at h; omega

def KeepsT (t : TypeId) (W W' : World) : Prop := ∀ (g : Nat) (cs : Array Value), W.heap[g]? = some (.cells cs t (0, 0)) → W'.heap[g]? = some (.cells cs t (0, 0))
def KpE (n₀ : Nat) (W W' : World) : Prop := Below n₀ W W' ∧ KeepsT 25 W W'

set_option maxRecDepth 100000 in
set_option maxHeartbeats 1000000 in
theorem each1_in (F : Fence) (n : Nat) (h22 : F.fn 22) (hro : F.round = none) (hn : 1 ≤ n) (l Bn n₀ : Nat) (A : Option Addr) (c : Nat) (cs : List (Int × Int)) (hlen : cs.length ≤ 140737488355328) (hwf : WfCodes cs) (J Jx : List Bool → World → Prop)
    (hJa : ∀ s (W : World) (o : Obj), J s W → J s (W.alloc o))
    (hY : ∀ pre x W, J pre W → pre.length < (codesBits cs).length → YieldAt F (n - 1) Tryd.prog l #[.int .u8 (bI x)] W fun e W' =>
      (e = .returned (.bool true) ∧ J (pre ++ [x]) W' ∧ KpE n₀ W W') ∨ (e = .returned (.bool false) ∧ Jx (pre ++ [x]) W'))
    (W : World) (hBn : W.cell? ⟨Bn, 0, none⟩ = some (.slice A cs.length c)) (hL : Reads W n₀ 2 A cs.length (codesV cs)) (hn0 : n₀ ≤ W.heap.size) (h0 : J [] W) :
    CallsIn F n Tryd.prog 22 #[.func (.yield l) #[] #[], .pointer (some ⟨Bn, 0, none⟩)] W fun e W' => (∃ v, e = .returned v) ∧
      ((∃ ys, ys = codesBits cs ∧ J ys W') ∨ (∃ pre, pre <+: codesBits cs ∧ Jx pre W')) := by
  refine callsIn_of_wp Tryd.func22 rfl h22 ?_ hro
  simp only [Tryd.ntmps22, List.size_toArray, List.length_cons, List.length_nil, Nat.reduceAdd, Nat.reduceSub, Array.replicate_succ, Array.replicate_zero, List.push_toArray, List.append_toArray, List.nil_append, List.cons_append]
  gi_wp2
  gi_loopw [8] (fun i wr => ∃ k : Nat, k ≤ cs.length ∧ i = .int .i64 k ∧ Reads wr n₀ 2 A cs.length (codesV cs) ∧ n₀ ≤ wr.heap.size ∧ J (codesBits (cs.take k)) wr) (fun i _ => cs.length - (intOf i).toNat)
  case atStart => exact ⟨0, by omega, rfl, hL, hn0, h0⟩
  case round =>
    obtain ⟨k, hk, rfl, hR, hs, hJ⟩ := hrel
    by_cases hlt : k < cs.length
    · obtain ⟨⟨N, V⟩, hc⟩ : ∃ c, cs[k]? = some c := ⟨_, List.getElem?_eq_getElem hlt⟩
      obtain ⟨wN, wV⟩ := hwf _ (List.mem_of_getElem? hc)
      obtain ⟨ad, hA, hblk, hcell⟩ := hR.2 (by omega)
      subst hA
      obtain ⟨q1, q2⟩ := codesV_at cs k (N, V) hc
      have c1 := hcell _ _ q1
      have c2 := hcell _ _ q2
      rw [← add_of_add] at c2
      have c3 : wr.cell? ⟨(ad.add (k * 2)).block, (ad.add (k * 2)).off + 1, none⟩ = some (.int .i64 V) := c2
      clear c2 hcell
      have hsn := Lib.hid (codesBits_snoc cs k (N, V) hc)
      have hle := codesBits_le cs k
      have hclip : (N < 0 ∧ clipN N = 0) ∨ (0 ≤ N ∧ N ≤ 32 ∧ (clipN N : Int) = N) ∨ (32 < N ∧ clipN N = 32) := by unfold clipN; omega
      have b1 := bounds_i64 wN
      have b2 := bounds_i64 wV
      obtain ⟨M, hM⟩ : ∃ M, M = clipN N := ⟨_, rfl⟩
      have hM32 : M ≤ 32 := by rw [hM]; unfold clipN; omega
      have HM := Lib.hid hM
      have HC := Lib.hid hc
      have hL2 : ∀ m, m < M → (codesBits (cs.take k)).length + (M - m - 1) < (codesBits cs).length := by
        intro m hm
        have h1 := codesBits_le cs (k + 1)
        rw [hsn.out, List.length_append, topBits_length] at h1
        simp only at h1
        rw [← hM] at h1
        omega
      have HL := Lib.hid hL2
      clear hL2 hc
      obtain ⟨wo, rfl⟩ : ∃ wo : World, wo = wr := ⟨_, rfl⟩
      rcases hclip with ⟨hN, hcl⟩ | ⟨hN, hN2, hcl⟩ | ⟨hN, hcl⟩
      all_goals
        rw [← hM] at hcl
        clear hM
        have HCl := Lib.hid hcl
        clear hcl
        gi_wp2
        all_goals
          gi_loopw [5] (fun i wr => ∃ (m : Nat) (t : List Bool), i = .int .i64 ((m : Int) - 1) ∧ m ≤ M ∧ topBits V M = t ++ topBits V m ∧ wr.heap[wo.heap.size]? = some (.cells #[.int .i64 N, .int .i64 V] 25 (0, 0)) ∧
            Reads wr n₀ 2 (some ad) cs.length (codesV cs) ∧ n₀ ≤ wr.heap.size ∧ J (codesBits (cs.take k) ++ t) wr) (fun i _ => (intOf i + 1).toNat)
          case atStart =>
            refine ⟨M, [], ?_, Nat.le_refl _, rfl, World.alloc_heap_new _ _, hR.alloc hs _, by simp; omega, by rw [List.append_nil]; exact hJa _ _ _ hJ⟩
            have := HCl.out
            congr 1; omega
          case round =>
            obtain ⟨m, t, hi5, hm, ht, hb, hR2, hs2, hJ2⟩ := hrel
            have hbc : ∀ j, wr.cell? ⟨wo.heap.size, j, none⟩ = (#[Value.int .i64 N, .int .i64 V] : Array Value)[j]? := fun j => cell_of_row _ _ j _ _ _ hb
            have hb1 := hbc 1
            simp at hb1
            clear hbc
            have HT := Lib.hid ht
            clear ht
            cases m with
            | zero =>
              obtain rfl := hi5
              gi_wp2
              go_roundw
              case rel =>
                have h1 := HT.out
                simp only [topBits, List.append_nil] at h1
                exact ⟨k + 1, by omega, by go_num, hR2, hs2, by rw [hsn.out, ← HM.out, h1]; exact hJ2⟩
              case measure => simp [intOf]; omega
            | succ m =>
              have e5 : (((m + 1 : Nat) : Int) - 1) = (m : Int) := by omega
              rw [e5] at hi5
              obtain rfl := hi5
              clear e5
              have hlt2 : (codesBits (cs.take k) ++ t).length < (codesBits cs).length := by
                have h1 := congrArg List.length HT.out
                rw [topBits_length, List.length_append, topBits_length] at h1
                have h2 := HL.out m (by omega)
                rw [List.length_append]; omega
              obtain ⟨fn, tmps, assign, body, hy, hRd⟩ := hY _ (decide (V / 2 ^ m % 2 = 1)) wr hJ2 hlt2
              have hx : bI (decide (V / 2 ^ m % 2 = 1)) = bits .and .i64 (V / 2 ^ m) 1 % 256 := by
                rw [i64_and1]; unfold bI
                by_cases h : V / 2 ^ m % 2 = 1
                · simp [h]
                · have : V / 2 ^ m % 2 = 0 := by omega
                  simp [this]
              rw [hx] at hy
              clear hx
              gi_wp2
              refine hRd.mono ?_
              rintro e W3 (⟨rfl, hJ3, hk3⟩ | ⟨rfl, hJx3⟩)
              · gi_wp2
                go_roundw
                case rel =>
                  refine ⟨m, t ++ [decide (V / 2 ^ m % 2 = 1)], rfl, by omega, ?_, hk3.2 _ _ hb, hR2.below hk3.1, Nat.le_trans hs2 hk3.1.size, by rw [← List.append_assoc]; exact hJ3⟩
                  rw [HT.out, topBits, List.append_assoc]; rfl
                case measure => simp [intOf]
              · gi_wp2
                refine bodyPost_ret (results_none rfl _ _ _) rfl ?_
                refine ⟨⟨_, rfl⟩, .inr ⟨_, ?_, hJx3⟩⟩
                refine List.IsPrefix.trans ?_ (codesBits_pre cs (k + 1))
                rw [hsn.out, ← HM.out, HT.out, topBits]
                exact ⟨topBits V m, by simp⟩
    · obtain rfl : k = cs.length := by omega
      rw [List.take_length] at hJ
      gi_wp2
      go_end0
      exact ⟨⟨_, rfl⟩, .inl ⟨_, rfl, hJ⟩⟩
end Go.Proofs.YtijnldbbibgjcaaDoor
