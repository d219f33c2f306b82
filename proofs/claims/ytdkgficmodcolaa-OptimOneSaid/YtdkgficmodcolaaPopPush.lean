/- Pop and Push of the waiting trees; container/heap's Init, Pop and Push on them. -/
import Derived.Test.YtdkgficmodcolaaUp
namespace Go.Proofs.Ytdkgficmodcolaa
open Go.RowKit

theorem grown_setCell (w : World) (a : Addr) (u : Value) : w.grownBy (w.setCell a u) (some a.block) :=
  ⟨rfl, rfl, rfl, by simp [World.setCell], fun k _ hne => Below.heap_setCell w a u k (fun e => hne (by rw [e]))⟩
theorem own_cut {w : World} {base e gs n cap : Nat} {xs ys : List Value} (h : w.ownsRow base e 1 (.slice (some ⟨gs, 0, none⟩) (xs ++ ys).length cap) (xs ++ ys).length (xs ++ ys)) (hn : n = xs.length) : w.ownsRow base e 1 (.slice (some ⟨gs, 0, none⟩) n cap) n xs := by
  subst hn
  refine ⟨by simp, .inr ?_⟩
  rcases h.2 with ⟨hv, _⟩ | ⟨g, cap', cur, hv, hb, hh, hnc, hm, hc, ht⟩
  · cases hv
  · injection hv with h1 _ h3
    injection h1 with h1
    injection h1 with h1
    subst h1
    subst h3
    rw [List.length_append] at hnc
    refine ⟨gs, cap, cur, rfl, hb, hh, by omega, hm, hc, ?_⟩
    have h2 : (cur.toList.take ((xs ++ ys).length * 1)).take xs.length = xs := by rw [ht]; simp
    rw [List.take_take, List.length_append, Nat.min_eq_left (by omega)] at h2
    simpa using h2
theorem own_cap {w : World} {base e gs n cap : Nat} {xs : List Value} (h : w.ownsRow base e 1 (.slice (some ⟨gs, 0, none⟩) n cap) n xs) : n ≤ cap := by
  rcases h.2 with ⟨hv, _⟩ | ⟨g, cap', cur, hv, hb, hh, hnc, hm, hc, ht⟩
  · cases hv
  · injection hv with _ _ h3
    omega

set_option maxRecDepth 100000 in
set_option maxHeartbeats 800000 in
theorem tpop_any (base gl gs cap : Nat) (ps : List Nat) (g : Nat) (key : Nat → Int × Int) (W : World) (h : Hp W base gl gs cap (ps ++ [g]) key) (hgl : base ≤ gl) :
    Calls Try.prog 54 #[.pointer (some ⟨gl, 0, none⟩)] W fun e w' => e = .returned (.iface 56 (.pointer (some ⟨g, 0, none⟩))) ∧ Hp w' base gl gs cap ps key ∧ W.grownBy w' (some gl) := by
  have hfew := h.few
  have hl : (ps ++ [g]).length = ps.length + 1 := by simp
  have hbox := h.box.cell 0
  simp only [List.getElem?_toArray, List.getElem?_cons_zero] at hbox
  have hfr := h.box.frozen 0
  have hcg := h.cell (i := ps.length) (g := g) (by simp)
  have hcap := own_cap h.own
  rw [hl] at hbox hfew hcap
  obtain ⟨n, hn⟩ : ∃ n, n = ps.length := ⟨_, rfl⟩
  rw [← hn] at hbox hfew hcap hcg
  have HN := Lib.hid hn
  have hn1 : (n : Int) + 1 - 1 = (n : Int) := by omega
  clear hl hn
  go_enter Try.func54, Try.ntmps54
  go_wp2_with fail
  have hg : W.grownBy (W.setCell ⟨gl, 0, none⟩ (.slice (some ⟨gs, 0, none⟩) n cap)) (some gl) := grown_setCell W _ _
  refine bodyPost_ret (results_tmp rfl _ _ _) rfl ⟨rfl, ⟨?_, ?_, fun k hk => ?_, by have := HN.out; omega⟩, hg⟩
  · have := h.box.set_ 0 (.slice (some ⟨gs, 0, none⟩) n cap)
    rw [← HN.out]
    exact this
  · have hp : (ptrV (ps ++ [g])).length = (ps ++ [g]).length := by simp [ptrV]
    have e : ptrV (ps ++ [g]) = ptrV ps ++ ptrV [g] := by simp [ptrV]
    have ho := h.own
    rw [← hp, e] at ho
    have := own_cut ho (n := ps.length) (by simp [ptrV])
    refine own_grown this hg (fun k hk e => ?_)
    simp [Value.ownBlock] at hk
    injection e with e
    exact h.ne (e.trans hk.symm)
  · have hm : k ∈ ps ++ [g] := by simp [hk]
    obtain ⟨v, hv⟩ := (h.keys k hm).at_
    exact ⟨⟨v, hv.grown hg (fun e => by injection e with e; subst e; exact absurd (Blk.ne_ hv h.box (by decide)) (by simp))⟩, (h.keys k hm).n0, (h.keys k hm).w0⟩
end Go.Proofs.Ytdkgficmodcolaa
