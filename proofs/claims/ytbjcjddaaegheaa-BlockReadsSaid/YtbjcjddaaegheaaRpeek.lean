/- Peek of both sides: one specification for every place and number of bits. -/
import Derived.Test.YtbjcjddaaegheaaPeek
namespace Go.Proofs.Ytbjcjddaaegheaa
open Go.RowKit

theorem and_i64 (y : Int) (h0 : 0 ≤ y) (h1 : y ≤ 255) : bits .and .i64 y 1 = y % 2 := by
  obtain ⟨a, rfl⟩ := Int.eq_ofNat_of_zero_le h0
  show IntKind.i64.wrap ((BitVec.ofInt 64 (a : Int) &&& BitVec.ofInt 64 ((1 : Nat) : Int)).toNat : Int) = _
  rw [BitVec.toNat_and, ofInt_u64 a (by omega), ofInt_u64 _ (by omega), IntKind.wrap_i64]
  rw [Nat.and_one_is_mod]; omega

theorem rpeek_yes (A : Option Addr) (c : Nat) (bs : List Int) (at_ n : Nat) (w : World) (hb : AreBytes bs) (hr : Reads w w.heap.size 1 A bs.length (bytesV bs))
    (hl : bs.length ≤ 140737488355328) (hn : n ≤ 32) (ha : at_ + n ≤ 8 * bs.length) :
    Calls Try.prog 43 #[.slice A bs.length c, .int .i64 at_, .int .i64 n] w fun e w' => e = .returned (.tuple #[.int .i64 (peekS bs at_ n), .bool true]) ∧ w = w' := by
  go_enter Try.func43, Try.ntmps43
  go_wp2
  go_loop [8, 9] (fun v i => ∃ k : Nat, k ≤ n ∧ i = .int .i64 (at_ + k : Nat) ∧ v = .int .i64 (peekS bs at_ k)) (fun _ i => at_ + n - (intOf i).toNat)
  case atStart => exact ⟨0, by omega, rfl, rfl⟩
  case round =>
    obtain ⟨k, hk, rfl, rfl⟩ := hrel
    obtain ⟨v0, v1⟩ := peekS_bd bs at_ k
    have p1 := pow_le_int k 32 (by omega)
    by_cases hlt : k < n
    · have hlt2 : (at_ + k) / 8 < bs.length := by omega
      obtain ⟨ad, u, rfl, _, hx, hc⟩ := hr.at_ hlt2
      have hx' : bs[(at_ + k) / 8]? = some (bs.getD ((at_ + k) / 8) 0) := by rw [List.getD_eq_getElem?_getD, List.getElem?_eq_getElem hlt2]; rfl
      obtain rfl : u = .int .u8 (bs.getD ((at_ + k) / 8) 0) := by
        rw [bytesV, List.getElem?_map, hx'] at hx; simpa using hx.symm
      have hg : bs[(at_ + k) / 8] = bs.getD ((at_ + k) / 8) 0 := by rw [List.getD_eq_getElem?_getD, List.getElem?_eq_getElem hlt2]; rfl
      obtain ⟨g0, g1⟩ := getD_bd hb ((at_ + k) / 8)
      obtain ⟨g2, g3⟩ := shr_byte _ (7 - (at_ + k) % 8) g0 g1
      have hstep : wrap64 (2 * peekS bs at_ k + bits .and .i64 (wrap64 bs[(at_ + k) / 8] / 2 ^ (7 - (at_ + k) % 8)) 1) = peekS bs at_ (k + 1) := by
        rw [hg]
        have e : wrap64 (bs.getD ((at_ + k) / 8) 0) = bs.getD ((at_ + k) / 8) 0 := by unfold wrap64; omega
        rw [e, and_i64 _ g2 g3]
        show wrap64 (2 * peekS bs at_ k + bitAt bs (at_ + k)) = 2 * peekS bs at_ k + bitAt bs (at_ + k)
        obtain ⟨b0, b1⟩ := bitAt_bd bs (at_ + k)
        unfold wrap64; omega
      have HS := Lib.hid hstep
      clear hstep hg
      go_wp2
      go_round
      case rel => exact ⟨k + 1, by omega, by go_num, by rw [HS.out]⟩
      case measure => simp [intOf]; omega
    · obtain rfl : k = n := by omega
      go_wp2
      go_ret2
      exact ⟨rfl, rfl⟩

theorem rpeek_no (A : Option Addr) (len c : Nat) (at_ n : Int) (w : World) (hl : len ≤ 140737488355328)
    (a0 : -9223372036854775808 ≤ at_) (a1 : at_ ≤ 9223372036854775807) (n0 : -9223372036854775808 ≤ n) (n1 : n ≤ 9223372036854775807)
    (h : n < 0 ∨ 32 < n ∨ at_ < 0 ∨ 8 * (len : Int) - n < at_) :
    Calls Try.prog 43 #[.slice A len c, .int .i64 at_, .int .i64 n] w fun e w' => e = .returned (.tuple #[.int .i64 0, .bool false]) ∧ w = w' := by
  by_cases h1 : n < 0
  · go_enter Try.func43, Try.ntmps43
    go_wp2
    go_ret2
    exact ⟨rfl, rfl⟩
  by_cases h2 : 32 < n
  · go_enter Try.func43, Try.ntmps43
    go_wp2
    go_ret2
    exact ⟨rfl, rfl⟩
  by_cases h3 : at_ < 0
  · go_enter Try.func43, Try.ntmps43
    go_wp2
    go_ret2
    exact ⟨rfl, rfl⟩
  have h4 : 8 * (len : Int) - n < at_ := by omega
  go_enter Try.func43, Try.ntmps43
  go_wp2
  go_ret2
  exact ⟨rfl, rfl⟩

/-- what Peek of both sides answers -/
def peekR (bs : List Int) (at_ n : Int) : Option Int :=
  if 0 ≤ n ∧ n ≤ 32 ∧ 0 ≤ at_ ∧ at_ + n ≤ 8 * bs.length then some (peekS bs at_.toNat n.toNat) else none
def peekV : Option Int → Value
  | some v => .tuple #[.int .i64 v, .bool true]
  | none => .tuple #[.int .i64 0, .bool false]
theorem peekR_bd {bs : List Int} {at_ n v : Int} (h : peekR bs at_ n = some v) : 0 ≤ v ∧ v < 2 ^ n.toNat ∧ 0 ≤ n ∧ n ≤ 32 ∧ 0 ≤ at_ ∧ at_ + n ≤ 8 * bs.length := by
  unfold peekR at h
  split at h
  · rename_i hc
    obtain ⟨v0, v1⟩ := peekS_bd bs at_.toNat n.toNat
    injection h with h
    rw [← h]
    exact ⟨v0, v1, hc⟩
  · cases h
theorem peek_any (A : Option Addr) (c len : Nat) (bs : List Int) (at_ n : Int) (w : World) (hlen : bs.length = len) (hb : AreBytes bs) (hr : Reads w w.heap.size 1 A len (bytesV bs))
    (hl : len ≤ 140737488355328) (a0 : -9223372036854775808 ≤ at_) (a1 : at_ ≤ 9223372036854775807) (n0 : -9223372036854775808 ≤ n) (n1 : n ≤ 9223372036854775807) :
    Calls Try.prog 47 #[.slice A len c, .int .i64 at_, .int .i64 n] w fun e w' => e = .returned (peekV (peekR bs at_ n)) ∧ w = w' := by
  subst hlen
  unfold peekR
  by_cases h : 0 ≤ n ∧ n ≤ 32 ∧ 0 ≤ at_ ∧ at_ + n ≤ 8 * (bs.length : Int)
  · rw [if_pos h]
    obtain ⟨h1, h2, h3, h4⟩ := h
    obtain ⟨N, rfl⟩ := Int.eq_ofNat_of_zero_le h1
    obtain ⟨M, rfl⟩ := Int.eq_ofNat_of_zero_le h3
    exact peek_yes A c bs M N w hb hr hl (by omega) (by omega)
  · rw [if_neg h]
    exact peek_no A _ c at_ n w hl a0 a1 n0 n1 (by omega)
theorem rpeek_any (A : Option Addr) (c len : Nat) (bs : List Int) (at_ n : Int) (w : World) (hlen : bs.length = len) (hb : AreBytes bs) (hr : Reads w w.heap.size 1 A len (bytesV bs))
    (hl : len ≤ 140737488355328) (a0 : -9223372036854775808 ≤ at_) (a1 : at_ ≤ 9223372036854775807) (n0 : -9223372036854775808 ≤ n) (n1 : n ≤ 9223372036854775807) :
    Calls Try.prog 43 #[.slice A len c, .int .i64 at_, .int .i64 n] w fun e w' => e = .returned (peekV (peekR bs at_ n)) ∧ w = w' := by
  subst hlen
  unfold peekR
  by_cases h : 0 ≤ n ∧ n ≤ 32 ∧ 0 ≤ at_ ∧ at_ + n ≤ 8 * (bs.length : Int)
  · rw [if_pos h]
    obtain ⟨h1, h2, h3, h4⟩ := h
    obtain ⟨N, rfl⟩ := Int.eq_ofNat_of_zero_le h1
    obtain ⟨M, rfl⟩ := Int.eq_ofNat_of_zero_le h3
    exact rpeek_yes A c bs M N w hb hr hl (by omega) (by omega)
  · rw [if_neg h]
    exact rpeek_no A _ c at_ n w hl a0 a1 n0 n1 (by omega)
end Go.Proofs.Ytbjcjddaaegheaa
