/- bits.Peek: what it returns, at every slice of bytes, place and number of bits; it only reads. -/
import Derived.Test.YtbjcjddaaegheaaProg
import Derived.Test.YtbjcjddaaegheaaWords
import Derived.Test.YtbjcjddaaegheaaNumB
import Derived.WalkKit
import Derived.BigQuiet
import Derived.Outline
import Derived.Lib.Hide
import Derived.KernelRfl
import Derived.Laws.BitsAllLaws
import Derived.Laws.Bits128
namespace Go.Proofs.Ytbjcjddaaegheaa
open Go.RowKit

def bytesV (bs : List Int) : List Value := bs.map (Value.int .u8)
def AreBytes (bs : List Int) : Prop := ∀ x ∈ bs, 0 ≤ x ∧ x ≤ 255
def bitAt (bs : List Int) (i : Nat) : Int := bs.getD (i / 8) 0 / 2 ^ (7 - i % 8) % 2
def peekS (bs : List Int) (i : Nat) : Nat → Int
  | 0 => 0
  | n + 1 => 2 * peekS bs i n + bitAt bs (i + n)
theorem bitAt_bd (bs : List Int) (i : Nat) : 0 ≤ bitAt bs i ∧ bitAt bs i ≤ 1 := by unfold bitAt; omega
theorem peekS_bd (bs : List Int) (i n : Nat) : 0 ≤ peekS bs i n ∧ peekS bs i n < 2 ^ n := by
  induction n with
  | zero => simp [peekS]
  | succ n ih => have := bitAt_bd bs (i + n); simp only [peekS, Int.pow_succ]; omega
theorem and_one (y : Int) (h0 : 0 ≤ y) (h1 : y ≤ 255) : bits .and .u8 y 1 = y % 2 := by
  rw [u8_and y 1 h0 (by omega) (by omega) (by omega)]
  have : (1 : Int).toNat = 1 := rfl
  rw [this, Nat.and_one_is_mod]; omega
theorem i64_or_nat (a b : Nat) (ha : a < 9223372036854775808) (hb : b < 9223372036854775808) : bits .or .i64 (a : Int) (b : Int) = ((a ||| b : Nat) : Int) := by
  have hx : a ||| b < 2 ^ 63 := Nat.or_lt_two_pow (by omega) (by omega)
  show IntKind.i64.wrap ((BitVec.ofInt 64 (a : Int) ||| BitVec.ofInt 64 (b : Int)).toNat : Int) = _
  rw [BitVec.toNat_or, ofInt_u64 a (by omega), ofInt_u64 b (by omega), IntKind.wrap_i64]
  omega
theorem or_bit (v b : Int) (h0 : 0 ≤ v) (h1 : v < 4611686018427387904) (b0 : 0 ≤ b) (b1 : b ≤ 1) : bits .or .i64 (v * 2) b = 2 * v + b := by
  obtain ⟨V, rfl⟩ := Int.eq_ofNat_of_zero_le h0
  obtain ⟨B, rfl⟩ := Int.eq_ofNat_of_zero_le b0
  have e : ((V : Int) * 2) = ((2 ^ 1 * V : Nat) : Int) := by omega
  rw [e, i64_or_nat _ _ (by omega) (by omega), ← Nat.two_pow_add_eq_or_of_lt (by omega)]; omega
theorem getD_bd {bs : List Int} (hb : AreBytes bs) (i : Nat) : 0 ≤ bs.getD i 0 ∧ bs.getD i 0 ≤ 255 := by
  rw [List.getD_eq_getElem?_getD]
  cases h : bs[i]? with
  | none => simp
  | some x => exact hb x (List.mem_of_getElem? h)
theorem shr_byte (x : Int) (k : Nat) (h0 : 0 ≤ x) (h1 : x ≤ 255) : 0 ≤ x / 2 ^ k ∧ x / 2 ^ k ≤ 255 :=
  ⟨Int.ediv_nonneg h0 (by have := pow_pos_int k; omega), by have := Int.ediv_le_self (a := x) (2 ^ k) h0; omega⟩

theorem peek_yes (A : Option Addr) (c : Nat) (bs : List Int) (at_ n : Nat) (w : World) (hb : AreBytes bs) (hr : Reads w w.heap.size 1 A bs.length (bytesV bs))
    (hl : bs.length ≤ 140737488355328) (hn : n ≤ 32) (ha : at_ + n ≤ 8 * bs.length) :
    Calls Try.prog 47 #[.slice A bs.length c, .int .i64 at_, .int .i64 n] w fun e w' => e = .returned (.tuple #[.int .i64 (peekS bs at_ n), .bool true]) ∧ w = w' := by
  go_enter Try.func47, Try.ntmps47
  go_wp2
  go_loop [8, 9] (fun v i => ∃ k : Nat, k ≤ n ∧ i = .int .i64 (at_ + k : Nat) ∧ v = .int .i64 (peekS bs at_ k)) (fun _ i => at_ + n - (intOf i).toNat)
  case atStart => exact ⟨0, by omega, rfl, rfl⟩
  case round =>
    obtain ⟨k, hk, rfl, rfl⟩ := hrel
    obtain ⟨v0, v1⟩ := peekS_bd bs at_ k
    have p1 := pow_le_int k 32 (by omega)
    by_cases hlt : k < n
    · have hlt2 : (at_ + k) / 8 < bs.length := by omega
      obtain ⟨ad, u, rfl, _, hx, hc⟩ := hr.at_ hlt2
      have hx' : bs[(at_ + k) / 8]? = some (bs.getD ((at_ + k) / 8) 0) := by rw [List.getD_eq_getElem?_getD, List.getElem?_eq_getElem hlt2]; rfl
      obtain rfl : u = .int .u8 (bs.getD ((at_ + k) / 8) 0) := by
        rw [bytesV, List.getElem?_map, hx'] at hx; simpa using hx.symm
      have hg : bs[(at_ + k) / 8] = bs.getD ((at_ + k) / 8) 0 := by rw [List.getD_eq_getElem?_getD, List.getElem?_eq_getElem hlt2]; rfl
      obtain ⟨g0, g1⟩ := getD_bd hb ((at_ + k) / 8)
      obtain ⟨g2, g3⟩ := shr_byte _ (7 - (at_ + k) % 8) g0 g1
      have hstep : bits .or .i64 (peekS bs at_ k * 2) (wrap64 (bits .and .u8 (bs[(at_ + k) / 8] / 2 ^ (7 - (at_ + k) % 8)) 1)) = peekS bs at_ (k + 1) := by
        rw [hg, and_one _ g2 g3]
        have e : wrap64 (bs.getD ((at_ + k) / 8) 0 / 2 ^ (7 - (at_ + k) % 8) % 2) = bitAt bs (at_ + k) := by unfold bitAt wrap64; omega
        obtain ⟨b0, b1⟩ := bitAt_bd bs (at_ + k)
        rw [e, or_bit _ _ v0 (by omega) b0 b1]; rfl
      have HS := Lib.hid hstep
      clear hstep hg g0 g1 g2 g3
      go_wp2
      go_round
      case rel => exact ⟨k + 1, by omega, by go_num, by rw [HS.out]⟩
      case measure => simp [intOf]; omega
    · obtain rfl : k = n := by omega
      go_wp2
      go_ret2
      exact ⟨rfl, rfl⟩

theorem peek_no (A : Option Addr) (len c : Nat) (at_ n : Int) (w : World) (hl : len ≤ 140737488355328)
    (a0 : -9223372036854775808 ≤ at_) (a1 : at_ ≤ 9223372036854775807) (n0 : -9223372036854775808 ≤ n) (n1 : n ≤ 9223372036854775807)
    (h : n < 0 ∨ 32 < n ∨ at_ < 0 ∨ 8 * (len : Int) - n < at_) :
    Calls Try.prog 47 #[.slice A len c, .int .i64 at_, .int .i64 n] w fun e w' => e = .returned (.tuple #[.int .i64 0, .bool false]) ∧ w = w' := by
  by_cases h1 : n < 0
  · go_enter Try.func47, Try.ntmps47
    go_wp2
    go_ret2
    exact ⟨rfl, rfl⟩
  by_cases h2 : 32 < n
  · go_enter Try.func47, Try.ntmps47
    go_wp2
    go_ret2
    exact ⟨rfl, rfl⟩
  by_cases h3 : at_ < 0
  · go_enter Try.func47, Try.ntmps47
    go_wp2
    go_ret2
    exact ⟨rfl, rfl⟩
  have h4 : 8 * (len : Int) - n < at_ := by omega
  go_enter Try.func47, Try.ntmps47
  go_wp2
  go_ret2
  exact ⟨rfl, rfl⟩
end Go.Proofs.Ytbjcjddaaegheaa
