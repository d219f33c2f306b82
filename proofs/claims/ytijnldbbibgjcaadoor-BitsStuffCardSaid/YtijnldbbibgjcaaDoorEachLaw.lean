/- BitsEach as a call: it returns true; nothing that lay has turned. Condition: the arguments are a slice of bytes and two numbers of their kinds. -/
import Derived.Test.YtijnldbbibgjcaaDoorKnown
namespace Go.Proofs.YtijnldbbibgjcaaDoor
open Go.RowKit
open Go.Lib (numsL bytesOf HoldsBytes)

def IsRow (k : IntKind) (w : World) (a : Option Addr) (len cap : Nat) (zs : List Int) : Prop :=
  (a = none ∧ len = 0 ∧ cap = 0 ∧ zs = []) ∨
  ∃ x, a = some x ∧ len ≤ cap ∧ cap ≤ maxLen ∧ zs.length = cap ∧ (∀ i, i < zs.length → w.cell? (x.add i) = some (.int k (zs.getD i 0))) ∧ ∀ n ∈ zs, (Lit.int k n).wf = true
theorem bounds_u8 {n : Int} (h : (Lit.int .u8 n).wf = true) : 0 ≤ n ∧ n ≤ 255 := by
  simp [Lit.wf, IntKind.min, IntKind.max, IntKind.signed, IntKind.bits] at h; omega
theorem bounds_u16 {n : Int} (h : (Lit.int .u16 n).wf = true) : 0 ≤ n ∧ n ≤ 65535 := by
  simp [Lit.wf, IntKind.min, IntKind.max, IntKind.signed, IntKind.bits] at h; omega
theorem row_reads {w : World} {A : Option Addr} {len cap : Nat} {zs : List Int} (h : IsRow .u8 w A len cap zs) :
    ∃ bs : List Int, bs.length = len ∧ len ≤ cap ∧ cap ≤ maxLen ∧ AreBytes bs ∧ Reads w w.heap.size 1 A len (bytesV bs) := by
  rcases h with ⟨rfl, rfl, rfl, rfl⟩ | ⟨x, rfl, h1, h2, h3, h4, h5⟩
  · exact ⟨[], rfl, Nat.le_refl _, by unfold maxLen; omega, (fun x hx => by cases hx), ⟨rfl, fun h => absurd h (by omega)⟩⟩
  · have hl : (zs.take len).length = len := by rw [List.length_take]; omega
    refine ⟨zs.take len, hl, h1, h2, fun x hx => bounds_u8 (h5 x (List.mem_of_mem_take hx)), ⟨by rw [bytesV, List.length_map, hl]; omega, fun hn => ⟨x, rfl, ?_, fun j u hu => ?_⟩⟩⟩
    · have := World.block_lt_of_cell? w _ (h4 0 (by omega))
      rwa [block_of_add] at this
    · rw [bytesV, List.getElem?_map] at hu
      obtain ⟨y, hy, rfl⟩ := Option.map_eq_some_iff.1 hu
      have hj : j < (zs.take len).length := (List.getElem?_eq_some_iff.1 hy).1
      rw [hl] at hj
      rw [List.getElem?_take, if_pos hj] at hy
      rw [h4 j (by omega), List.getD_eq_getElem?_getD, hy]; rfl

theorem peek_yes' (A : Option Addr) (c len : Nat) (bs : List Int) (at_ n : Nat) (w : World) (hlen : bs.length = len) (hb : AreBytes bs) (hr : Reads w w.heap.size 1 A len (bytesV bs))
    (hl : len ≤ 140737488355328) (hn : n ≤ 32) (ha : at_ + n ≤ 8 * len) :
    Calls Tryd.prog 10 #[.slice A len c, .int .i64 at_, .int .i64 n] w fun e w' => e = .returned (.tuple #[.int .i64 (peekS bs at_ n), .bool true]) ∧ w = w' := by
  subst hlen
  exact peek_yes A c bs at_ n w hb hr hl hn ha

theorem each_walk (A : Option Addr) (len cap : Nat) (zs : List Int) (a n : Int) (W : World) (h : IsRow .u8 W A len cap zs) (ha : (Lit.int .u16 a).wf = true) (hn : (Lit.int .u8 n).wf = true) :
    Calls Tryd.prog 5 #[.slice A len cap, .int .u16 a, .int .u8 n] W fun e w' => e = .returned (.bool true) ∧ Below W.heap.size W w' := by
  obtain ⟨bs, hbl, hlc, hcm, hby, hR⟩ := row_reads h
  obtain ⟨a0, a1⟩ := bounds_u16 ha
  obtain ⟨n0, n1⟩ := bounds_u8 hn
  unfold maxLen at hcm
  clear ha hn h
  by_cases h3 : 300 < len
  · go_enter Tryd.func5, Tryd.ntmps5
    go_wp2_with fail
    refine (known_any _).mono ?_
    rintro e w' ⟨rfl, hb⟩
    go_wp2_with fail
    go_ret
    exact ⟨rfl, hb⟩
  by_cases h0 : len = 0
  · subst h0
    go_enter Tryd.func5, Tryd.ntmps5
    go_wp2_with fail
    refine (known_any _).mono ?_
    rintro e w' ⟨rfl, hb⟩
    go_wp2_with fail
    go_ret
    exact ⟨rfl, hb⟩
  have h0' : ((len : Int) == 0) = false := by simp; omega
  have hp : 0 ≤ a % (8 * (len : Int)) := Int.emod_nonneg _ (by omega)
  have hq : a % (8 * (len : Int)) < 8 * (len : Int) := Int.emod_lt_of_pos _ (by omega)
  obtain ⟨i, hi⟩ : ∃ i : Nat, a % (8 * (len : Int)) = i := ⟨(a % (8 * (len : Int))).toNat, by omega⟩
  obtain ⟨m, hm⟩ : ∃ m : Nat, n % 33 = m := ⟨(n % 33).toNat, by omega⟩
  have hm32 : m ≤ 32 := by omega
  have hi8 : i < 8 * len := by omega
  have h8 : ¬ 8 * (len : Int) = 0 := by omega
  clear hp hq
  by_cases hin : i + m ≤ 8 * len
  · obtain ⟨v0, v1⟩ := peekS_bd bs i m
    have p1 := pow_le_int m 32 hm32
    have HBL := Lib.hid hbl
    clear hbl
    go_enter Tryd.func5, Tryd.ntmps5
    go_wp2_with fail
    refine (peek_yes' A cap len bs i m _ HBL.out hby hR (by omega) hm32 hin).mono ?_
    rintro e w' ⟨rfl, rfl⟩
    go_wp2_with fail
    go_loop [11, 12] (fun x k => ∃ j : Nat, j ≤ m ∧ k = .int .i64 j ∧ x = .int .i64 (peekS bs i j)) (fun _ k => m - (intOf k).toNat)
    case atStart => exact ⟨0, by omega, rfl, rfl⟩
    case round =>
      obtain ⟨j, hj, rfl, rfl⟩ := hrel
      obtain ⟨w0, w1⟩ := peekS_bd bs i j
      have p2 := pow_le_int j 32 (by omega)
      by_cases hlt : j < m
      · have hstep : 2 * peekS bs i j + peekS bs (i + j) 1 = peekS bs i (j + 1) := by simp [peekS]
        have HS := Lib.hid hstep
        have hb1 := peekS_bd bs (i + j) 1
        clear hstep
        go_wp2_with fail
        rw [show ((i : Int) + (j : Int)) = ((i + j : Nat) : Int) by simp]
        refine (peek_yes' A cap len bs (i + j) 1 _ HBL.out hby hR (by omega) (by omega) (by omega)).mono ?_
        rintro e w' ⟨rfl, rfl⟩
        go_wp2_with fail
        go_round
        case rel => exact ⟨j + 1, by omega, by go_num, by rw [← HS.out]⟩
        case measure => simp [intOf]; omega
      · obtain rfl : j = m := by omega
        go_wp2_with fail
        refine (known_any _).mono ?_
        rintro e w' ⟨rfl, hb⟩
        go_wp2_with fail
        go_ret
        exact ⟨by simp, hb⟩
  · go_enter Tryd.func5, Tryd.ntmps5
    go_wp2_with fail
    refine (peek_no A len cap i m _ (by omega) (by omega) (by omega) (by omega) (by omega) (by omega)).mono ?_
    rintro e w' ⟨rfl, rfl⟩
    go_wp2_with fail
    refine (known_any _).mono ?_
    rintro e w' ⟨rfl, hb⟩
    go_wp2_with fail
    go_ret
    exact ⟨by simp, hb⟩
end Go.Proofs.YtijnldbbibgjcaaDoor
