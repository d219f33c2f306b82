/- Swap, Len, Pop, Push of the waiting trees. -/
import Derived.Test.YtdkgficmodcolaaLess
namespace Go.Proofs.Ytdkgficmodcolaa
open Go.RowKit

theorem len_any (A : Option Addr) (n c : Nat) (W : World) (_ : n ≤ 1000000) : Calls Try.prog 23 #[.slice A n c] W fun e w' => e = .returned (.int .i64 n) ∧ W = w' := by
  go_enter Try.func23, Try.ntmps23
  go_wp2
  go_ret
  exact ⟨rfl, rfl⟩

set_option maxRecDepth 100000 in
set_option maxHeartbeats 4000000 in
theorem swap_any (gs n c i j : Nat) (gi gj : Nat) (W : World) (hi : i < n) (hj : j < n) (hci : W.cell? ⟨gs, i, none⟩ = some (.pointer (some ⟨gi, 0, none⟩))) (hcj : W.cell? ⟨gs, j, none⟩ = some (.pointer (some ⟨gj, 0, none⟩))) (hf : ∀ k, W.frozen? ⟨gs, k, none⟩ = false) :
    Calls Try.prog 52 #[.slice (some ⟨gs, 0, none⟩) n c, .int .i64 i, .int .i64 j] W fun e w' => e = .returned (.tuple #[]) ∧ w' = ((W.setCell ⟨gs, i, none⟩ (.pointer (some ⟨gj, 0, none⟩))).setCell ⟨gs, j, none⟩ (.pointer (some ⟨gi, 0, none⟩))).drew := by
  have hfi := hf i
  have hfj := hf j
  have hcj2 : (W.setCell ⟨gs, i, none⟩ (.pointer (some ⟨gj, 0, none⟩))).cell? ⟨gs, j, none⟩ = some (.pointer (some ⟨gj, 0, none⟩)) := by
    by_cases e : i = j
    · subst e
      exact World.cell?_setCell_same _ _ _ (by rw [hci])
    · exact (World.cell?_setCell_other _ _ _ _ (fun h => by injection h with _ h2; omega)).trans hcj
  have hfj2 : (W.setCell ⟨gs, i, none⟩ (.pointer (some ⟨gj, 0, none⟩))).frozen? ⟨gs, j, none⟩ = false := by
    simpa using hfj
  clear hf
  go_enter Try.func52, Try.ntmps52
  go_wp2_with fail
  go_region
  go_wp2_with fail
  exact bodyPost_end (v := .tuple #[]) (results_none rfl _ _ _) rfl ⟨rfl, rfl⟩

def ptrV (ps : List Nat) : List Value := ps.map fun g => .pointer (some ⟨g, 0, none⟩)
theorem ptrV_at (ps : List Nat) (i g : Nat) (h : ps[i]? = some g) : (ptrV ps)[i]? = some (.pointer (some ⟨g, 0, none⟩)) := by
  rw [ptrV, List.getElem?_map, h]; rfl
/-- the waiting trees: the box of the slice, the slice, the trees' keys -/
structure Hp (w : World) (base gl gs cap : Nat) (ps : List Nat) (key : Nat → Int × Int) : Prop where
  box : Blk w gl 60 #[.slice (some ⟨gs, 0, none⟩) ps.length cap]
  own : w.ownsRow base 56 1 (.slice (some ⟨gs, 0, none⟩) ps.length cap) ps.length (ptrV ps)
  keys : ∀ g ∈ ps, KeyAt w g (key g)
  few : ps.length ≤ 1000
section
variable {w w' : World} {base gl gs cap : Nat} {ps : List Nat} {key : Nat → Int × Int}
theorem Hp.lt (h : Hp w base gl gs cap ps key) : gs < w.heap.size := own_lt h.own gs rfl
theorem Hp.ne (h : Hp w base gl gs cap ps key) : gl ≠ gs := fun e => by
  have := own_blk_ne h.own h.box (by decide)
  simp [Value.ownBlock] at this
  exact this e.symm
theorem Hp.kne (h : Hp w base gl gs cap ps key) {g : Nat} (hg : g ∈ ps) : g ≠ gs := fun e => by
  obtain ⟨v, hv⟩ := (h.keys g hg).at_
  have := own_blk_ne h.own hv (by decide)
  simp [Value.ownBlock] at this
  exact this e.symm
theorem Hp.below (h : Hp w base gl gs cap ps key) (hb : Below w.heap.size w w') : Hp w' base gl gs cap ps key :=
  ⟨h.box.below hb h.box.lt, own_below h.own hb (Nat.le_refl _), fun g hg => (h.keys g hg).below hb, h.few⟩
theorem Hp.cell (h : Hp w base gl gs cap ps key) {i g : Nat} (hi : ps[i]? = some g) : w.cell? ⟨gs, i, none⟩ = some (.pointer (some ⟨g, 0, none⟩)) := own_cell h.own i _ (ptrV_at ps i g hi)
def swapL (ps : List Nat) (i j : Nat) : List Nat := (ps.set i (ps.getD j 0)).set j (ps.getD i 0)
theorem swapL_length (ps : List Nat) (i j : Nat) : (swapL ps i j).length = ps.length := by simp [swapL]
theorem getD_some {ps : List Nat} {i : Nat} (hi : i < ps.length) : ps[i]? = some (ps.getD i 0) := by
  rw [List.getD_eq_getElem?_getD, List.getElem?_eq_getElem hi]; rfl
theorem swapL_mem {ps : List Nat} {i j : Nat} (hi : i < ps.length) (hj : j < ps.length) : ∀ g ∈ swapL ps i j, g ∈ ps := by
  intro g hg
  rcases List.mem_or_eq_of_mem_set hg with h | rfl
  · rcases List.mem_or_eq_of_mem_set h with h | rfl
    · exact h
    · exact List.mem_of_getElem? (getD_some hj)
  · exact List.mem_of_getElem? (getD_some hi)
theorem Hp.swap (h : Hp w base gl gs cap ps key) {i j : Nat} (hi : i < ps.length) (hj : j < ps.length) :
    Calls Try.prog 52 #[.slice (some ⟨gs, 0, none⟩) ps.length cap, .int .i64 i, .int .i64 j] w fun e w' => e = .returned (.tuple #[]) ∧ Hp w' base gl gs cap (swapL ps i j) key ∧ w.grownBy w' (some gs) := by
  have hgi := getD_some hi
  have hgj := getD_some hj
  refine (swap_any gs ps.length cap i j _ _ w hi hj (h.cell hgi) (h.cell hgj) (fun k => h.own.frozenAt k)).mono ?_
  rintro e w' ⟨rfl, rfl⟩
  refine ⟨rfl, ?_⟩
  obtain ⟨s1, s2⟩ := h.own.stored i (.pointer (some ⟨ps.getD j 0, 0, none⟩))
  obtain ⟨s3, s4⟩ := s1.stored j (.pointer (some ⟨ps.getD i 0, 0, none⟩))
  have hg : w.grownBy ((w.setCell ⟨gs, i, none⟩ (.pointer (some ⟨ps.getD j 0, 0, none⟩))).setCell ⟨gs, j, none⟩ (.pointer (some ⟨ps.getD i 0, 0, none⟩))).drew (some gs) := by
    have := s2.trans s4
    exact ⟨this.os, by simp, this.output, this.size, this.block⟩
  refine ⟨⟨?_, ?_, fun g hg' => ?_, by rw [swapL_length]; exact h.few⟩, hg⟩
  · rw [swapL_length]
    exact h.box.grown hg (fun e => h.ne (by injection e))
  · rw [swapL_length]
    have e : ptrV (swapL ps i j) = ((ptrV ps).set i (.pointer (some ⟨ps.getD j 0, 0, none⟩))).set j (.pointer (some ⟨ps.getD i 0, 0, none⟩)) := by
      unfold ptrV swapL; rw [List.map_set, List.map_set]
    rw [e]
    exact s3
  · have hm := swapL_mem hi hj g hg'
    obtain ⟨v, hv⟩ := (h.keys g hm).at_
    exact ⟨⟨v, hv.grown hg (fun e => h.kne hm (by injection e))⟩, (h.keys g hm).n0, (h.keys g hm).w0⟩
theorem Hp.less (h : Hp w base gl gs cap ps key) {i j : Nat} (hi : i < ps.length) (hj : j < ps.length) :
    Calls Try.prog 51 #[.slice (some ⟨gs, 0, none⟩) ps.length cap, .int .i64 i, .int .i64 j] w fun e w' => e = .returned (.bool (lessK (key (ps.getD i 0)) (key (ps.getD j 0)))) ∧ Hp w' base gl gs cap ps key ∧ Below w.heap.size w w' := by
  have hgi := getD_some hi
  have hgj := getD_some hj
  refine (less_any gs ps.length cap i j _ _ _ _ w hi hj (h.cell hgi) (h.cell hgj) (h.keys _ (List.mem_of_getElem? hgi)) (h.keys _ (List.mem_of_getElem? hgj))).mono ?_
  rintro e w' ⟨rfl, hb⟩
  exact ⟨rfl, h.below hb, hb⟩
end
end Go.Proofs.Ytdkgficmodcolaa
