/- A row of bytes in memory, and ranges of it swapped. -/
import Derived.Test.YtdkgficmodcolaaSort1
namespace Go.Proofs.Ytdkgficmodcolaa
open Go.RowKit

def bytesN (xs : List Nat) : List Value := xs.map fun (x : Nat) => .int .u8 (x : Int)
abbrev rowV (g n cap : Nat) : Value := .slice (some ⟨g, 0, none⟩) n cap
abbrev cmpV (sb : Nat) : Value := .func (.func 18) #[] #[.pointer (some ⟨sb, 0, none⟩)]
/-- a row of bytes, and the sizes by which they are compared -/
structure Rw (w : World) (base g cap : Nat) (xs : List Nat) (sb : Nat) (s : List Int) : Prop where
  own : w.ownsRow base 5 1 (rowV g xs.length cap) xs.length (bytesN xs)
  sz : Blk w sb 43 (intsC s)
  fit : FitS s
  by_ : ∀ x ∈ xs, x ≤ 255
  few : xs.length ≤ 256
section
variable {w w' : World} {base g cap sb : Nat} {xs : List Nat} {s : List Int}
theorem below_drewN {B : Nat} (_ : B ≤ B) (n : Nat) : Below B w (w.drewN n) := ⟨rfl, rfl, rfl, Nat.le_refl _, fun _ _ => rfl⟩
theorem bytesN_at {i : Nat} (hi : i < xs.length) : (bytesN xs)[i]? = some (.int .u8 (xs.getD i 0 : Nat)) := by
  rw [bytesN, List.getElem?_map, getD_some hi]; rfl
theorem Rw.cell (h : Rw w base g cap xs sb s) {i : Nat} (hi : i < xs.length) : w.cell? ⟨g, i, none⟩ = some (.int .u8 (xs.getD i 0 : Nat)) := own_cell h.own i _ (bytesN_at hi)
theorem Rw.at_bd (h : Rw w base g cap xs sb s) (i : Nat) : xs.getD i 0 ≤ 255 := by
  by_cases hi : i < xs.length
  · exact h.by_ _ (List.mem_of_getElem? (getD_some hi))
  · rw [List.getD_eq_getElem?_getD, List.getElem?_eq_none (by omega)]; simp
theorem Rw.frozen (h : Rw w base g cap xs sb s) (i : Nat) : w.frozen? ⟨g, i, none⟩ = false := h.own.frozenAt i
theorem Rw.drewN (h : Rw w base g cap xs sb s) (n : Nat) : Rw (w.drewN n) base g cap xs sb s :=
  ⟨own_below h.own (below_drewN (Nat.le_refl _) n) (Nat.le_refl _), h.sz.drewN n, h.fit, h.by_, h.few⟩
theorem Rw.ne (h : Rw w base g cap xs sb s) : sb ≠ g := fun e => by
  have := own_blk_ne h.own h.sz (by decide)
  simp [Value.ownBlock] at this
  exact this e.symm
theorem Rw.swap (h : Rw w base g cap xs sb s) {i j : Nat} (hi : i < xs.length) (hj : j < xs.length) :
    Rw ((w.setCell ⟨g, i, none⟩ (.int .u8 (xs.getD j 0 : Nat))).setCell ⟨g, j, none⟩ (.int .u8 (xs.getD i 0 : Nat))) base g cap (swapL xs i j) sb s ∧
      w.grownBy ((w.setCell ⟨g, i, none⟩ (.int .u8 (xs.getD j 0 : Nat))).setCell ⟨g, j, none⟩ (.int .u8 (xs.getD i 0 : Nat))) (some g) := by
  obtain ⟨s1, s2⟩ := h.own.stored i (.int .u8 (xs.getD j 0 : Nat))
  obtain ⟨s3, s4⟩ := s1.stored j (.int .u8 (xs.getD i 0 : Nat))
  have hg := s2.trans s4
  refine ⟨⟨?_, h.sz.grown hg (fun e => h.ne (by injection e)), h.fit, fun x hx => h.by_ x (swapL_mem hi hj x hx), by rw [swapL_length]; exact h.few⟩, hg⟩
  rw [swapL_length]
  have e : bytesN (swapL xs i j) = ((bytesN xs).set i (.int .u8 (xs.getD j 0 : Nat))).set j (.int .u8 (xs.getD i 0 : Nat)) := by
    unfold bytesN swapL; rw [List.map_set, List.map_set]
  rw [e]
  exact s3
theorem Rw.cmp (h : Rw w base g cap xs sb s) (i j n : Nat) : Calls Try.prog 18 #[.int .u8 (xs.getD i 0 : Nat), .int .u8 (xs.getD j 0 : Nat), .pointer (some ⟨sb, 0, none⟩)] (w.drewN n) fun e w' => e = .returned (.int .i64 (cmpS (s.getD (xs.getD i 0) 0) (s.getD (xs.getD j 0) 0))) ∧ ∃ m, w' = w.drewN m :=
  Calls.quiet_of (best1_any sb s _ _ _ (h.sz.drewN n) h.fit (h.at_bd i) (h.at_bd j))
theorem drewN_grown (w : World) (n : Nat) (row : Option Nat) : w.grownBy (w.drewN n) row := ⟨rfl, rfl, rfl, Nat.le_refl _, fun _ _ _ => rfl⟩
end

def swapR (xs : List Nat) (a b : Nat) : Nat → List Nat
  | 0 => xs
  | n + 1 => swapL (swapR xs a b n) (a + n) (b + n)
theorem swapR_length (xs : List Nat) (a b n : Nat) : (swapR xs a b n).length = xs.length := by
  induction n with
  | zero => rfl
  | succ n ih => rw [swapR, swapL_length, ih]

set_option maxRecDepth 100000 in
set_option maxHeartbeats 800000 in
theorem swapRange_any (base g cap sb : Nat) (s : List Int) (xs : List Nat) (a b n : Nat) (W : World) (h : Rw W base g cap xs sb s) (ha : a + n ≤ xs.length) (hb : b + n ≤ xs.length) (hab : a ≠ b) (hf : Value) :
    Calls Try.prog 34 #[rowV g xs.length cap, .int .i64 a, .int .i64 b, .int .i64 n, hf] W fun e w' => e = .returned (.tuple #[]) ∧ Rw w' base g cap (swapR xs a b n) sb s ∧ W.grownBy w' (some g) := by
  obtain ⟨len, hlen⟩ : ∃ len, len = xs.length := ⟨_, rfl⟩
  have hfew := h.few
  rw [← hlen] at ha hb hfew ⊢
  have hl2 : ∀ k, (swapR xs a b k).length = len := fun k => by rw [swapR_length, hlen]
  have HL2 := Lib.hid hl2
  clear hl2 hlen
  go_enter Try.func34, Try.ntmps34
  go_wp2_with fail
  go_loopw [10] (fun v5 (w : World) => ∃ k : Nat, k ≤ n ∧ v5 = .int .i64 k ∧ Rw w base g cap (swapR xs a b k) sb s ∧ W.grownBy w (some g)) (fun v5 _ => n - (intOf v5).toNat)
  case atStart => exact ⟨0, by omega, rfl, h, World.grownBy.refl _ _⟩
  case round =>
    clear h
    obtain ⟨k, hk, rfl, h, hg⟩ := hrel
    by_cases hlt : k < n
    · have c1 := h.cell (i := a + k) (by rw [HL2.out]; omega)
      have c2 := h.cell (i := b + k) (by rw [HL2.out]; omega)
      have f1 := h.frozen (a + k)
      obtain ⟨hsw, hgs⟩ := h.swap (i := a + k) (j := b + k) (by rw [HL2.out]; omega) (by rw [HL2.out]; omega)
      have hst : swapL (swapR xs a b k) (a + k) (b + k) = swapR xs a b (k + 1) := rfl
      rw [hst] at hsw
      have hg2 := hg.trans hgs
      generalize (swapR xs a b k).getD (a + k) 0 = x at *
      generalize (swapR xs a b k).getD (b + k) 0 = y at *
      have c3 : (wr.setCell ⟨g, a + k, none⟩ (.int .u8 (y : Int))).cell? ⟨g, b + k, none⟩ = some (.int .u8 (y : Int)) := (World.cell?_setCell_other _ _ _ _ (fun h => by injection h with _ h2; omega)).trans c2
      have f3 : (wr.setCell ⟨g, a + k, none⟩ (.int .u8 (y : Int))).frozen? ⟨g, b + k, none⟩ = false := by simpa using h.frozen (b + k)
      clear h hg hgs hst
      go_wp2_with fail
      go_region
      go_wp2_with fail
      go_roundw
      case rel => exact ⟨k + 1, by omega, by go_num, hsw.drewN 1, hg2.trans (drewN_grown _ 1 _)⟩
      case measure => simp [intOf]; omega
    · obtain rfl : k = n := by omega
      go_wp2_with fail
      exact bodyPost_end (results_none rfl _ _ _) rfl ⟨rfl, h, hg⟩
end Go.Proofs.Ytdkgficmodcolaa
