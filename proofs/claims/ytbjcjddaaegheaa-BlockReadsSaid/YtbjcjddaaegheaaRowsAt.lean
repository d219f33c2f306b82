/- Rows of codes: what Groups says; how they lie in memory. -/
import Derived.Test.YtbjcjddaaegheaaTail
import Derived.Test.YtbjcjddaaegheaaAppend
import Derived.Test.YtbjcjddaaegheaaCatch
namespace Go.Proofs.Ytbjcjddaaegheaa
open Go.RowKit

def codeP (f : Nat → Nat × Nat) (v : Nat) : Int × Int := ((f v).1, (f v).2)
def tailP (n : Int) : Int × Int := (sizeS n, lowS n)
def rowCells (r : List (Int × Int)) : List Value := r.flatMap fun p => [.int .i64 p.1, .int .i64 p.2]
theorem rowCells_append (a b : List (Int × Int)) : rowCells (a ++ b) = rowCells a ++ rowCells b := by simp [rowCells]
theorem rowCells_length (r : List (Int × Int)) : (rowCells r).length = r.length * 2 := by
  induction r with
  | nil => rfl
  | cons p t ih => simp only [rowCells, List.flatMap_cons, List.length_append, List.length_cons, List.length_nil] at *; omega
theorem rowCells_one (r : List (Int × Int)) : ∀ u ∈ rowCells r, u.oneCell' = true := by
  intro u hu
  simp only [rowCells, List.mem_flatMap] at hu
  obtain ⟨p, _, hp⟩ := hu
  simp at hp
  rcases hp with rfl | rfl <;> rfl
def rowG (fa : Nat → Nat × Nat) (run : Nat) (n : Int) : List (Int × Int) :=
  List.replicate (run / 16) (codeP fa 240) ++ [codeP fa (16 * (run % 16) + (sizeS n).toNat), tailP n]
def grpS (fa : Nat → Nat × Nat) : List Int → Nat → List (List (Int × Int))
  | [], run => if 0 < run then [[codeP fa 0]] else []
  | x :: t, run => if x = 0 then grpS fa t (run + 1) else rowG fa run x :: grpS fa t 0
def groupsS (fd fa : Nat → Nat × Nat) (z : List Int) (last : Int) : List (List (Int × Int)) :=
  [codeP fd (sizeS (z.getD 0 0 - last)).toNat, tailP (z.getD 0 0 - last)] :: grpS fa (z.drop 1) 0

section
variable {w w' : World} {base e size n : Nat} {v : Value} {xs : List Value} {row : Option Nat}
theorem own_ge (h : w.ownsRow base e size v n xs) : ∀ g, v.ownBlock = some g → base ≤ g := by
  intro g hg
  rcases h.2 with ⟨rfl, _⟩ | ⟨g', cap, cur, rfl, hb, _⟩
  · cases hg
  · simp [Value.ownBlock] at hg; omega
theorem own_lt (h : w.ownsRow base e size v n xs) : ∀ g, v.ownBlock = some g → g < w.heap.size := by
  intro g hg
  rcases h.2 with ⟨rfl, _⟩ | ⟨g', cap, cur, rfl, hb, hh, _⟩
  · cases hg
  · simp [Value.ownBlock] at hg; subst hg; exact (Array.getElem?_eq_some_iff.1 hh).1
theorem own_grown (h : w.ownsRow base e size v n xs) (hg : w.grownBy w' row) (hne : ∀ g, v.ownBlock = some g → row ≠ some g) : w'.ownsRow base e size v n xs := by
  have hlt := own_lt h
  refine ⟨h.1, ?_⟩
  rcases h.2 with hn | ⟨g, cap, cur, rfl, hb, hh, rest⟩
  · exact .inl hn
  · exact .inr ⟨g, cap, cur, rfl, hb, by rw [hg.block g (hlt g rfl) (fun e => hne g rfl e.symm)]; exact hh, rest⟩
theorem own_below {K : Nat} (h : w.ownsRow base e size v n xs) (hb : Below K w w') (hk : w.heap.size ≤ K) : w'.ownsRow base e size v n xs := by
  have hlt := own_lt h
  refine ⟨h.1, ?_⟩
  rcases h.2 with hn | ⟨g, cap, cur, rfl, hbb, hh, rest⟩
  · exact .inl hn
  · exact .inr ⟨g, cap, cur, rfl, hbb, by rw [hb.block g (Nat.lt_of_lt_of_le (hlt g rfl) hk)]; exact hh, rest⟩
theorem own_base {b : Nat} (h : w.ownsRow base e size v n xs) (hb : b ≤ base) : w.ownsRow b e size v n xs := by
  refine ⟨h.1, ?_⟩
  rcases h.2 with hn | ⟨g, cap, cur, rfl, hbb, rest⟩
  · exact .inl hn
  · exact .inr ⟨g, cap, cur, rfl, by omega, rest⟩
theorem own_apart {e2 size2 n2 base2 : Nat} {v2 : Value} {xs2 : List Value} (h : w.ownsRow base e size v n xs) (h2 : w.ownsRow base2 e2 size2 v2 n2 xs2) (hne : e ≠ e2) : ∀ g, v.ownBlock = some g → v2.ownBlock ≠ some g := by
  intro g hg hg2
  rcases h.2 with ⟨rfl, _⟩ | ⟨g', cap, cur, rfl, _, hh, _⟩
  · cases hg
  rcases h2.2 with ⟨rfl, _⟩ | ⟨g2, cap2, cur2, rfl, _, hh2, _⟩
  · cases hg2
  simp only [Value.ownBlock, Option.some.injEq] at hg hg2
  subst hg hg2
  rw [hh] at hh2
  injection hh2 with hh2
  injection hh2 with _ h3
  exact hne h3
theorem below_own (h : w.ownsRow base e size v n xs) (hg : w.grownBy w' v.ownBlock) {b : Nat} (hb : b ≤ base) (hbw : b ≤ w.heap.size) : Below b w w' :=
  ⟨hg.os, hg.tape, hg.output, hg.size, fun k hk => hg.block k (by omega) (fun e => by have := own_ge h k e.symm; omega)⟩
/-- a slice of the call's own of one block that nobody else knows -/
theorem own_new {W : World} {g m : Nat} {t : TypeId} {cs : Array Value} (hB : Blk W g t cs) (hb : base ≤ g) (hm : m ≤ maxLen) (hc : cs.size = m * size) : W.ownsRow base t size (.slice (some ⟨g, 0, none⟩) m m) m cs.toList :=
  ⟨by simpa using hc, .inr ⟨g, m, cs, rfl, hb, hB, Nat.le_refl _, hm, hc, by rw [List.take_of_length_le (by simp [hc])]⟩⟩
end
def RowsAt (w : World) (base : Nat) (v : Value) (rows : List (List (Int × Int))) : Prop :=
  ∃ hs : List Value, hs.length = rows.length ∧ w.ownsRow base 45 1 v rows.length hs ∧ ∀ (i : Nat) (h : Value) (r : List (Int × Int)), hs[i]? = some h → rows[i]? = some r → w.ownsRow base 42 2 h r.length (rowCells r)
theorem RowsAt.base {w : World} {b base : Nat} {v : Value} {rows : List (List (Int × Int))} (h : RowsAt w base v rows) (hb : b ≤ base) : RowsAt w b v rows := by
  obtain ⟨hs, h1, h2, h3⟩ := h
  exact ⟨hs, h1, own_base h2 hb, fun i u r hu hr => own_base (h3 i u r hu hr) hb⟩
theorem RowsAt.below {w w' : World} {base K : Nat} {v : Value} {rows : List (List (Int × Int))} (h : RowsAt w base v rows) (hb : Below K w w') (hk : w.heap.size ≤ K) : RowsAt w' base v rows := by
  obtain ⟨hs, h1, h2, h3⟩ := h
  exact ⟨hs, h1, own_below h2 hb hk, fun i u r hu hr => own_below (h3 i u r hu hr) hb hk⟩
theorem rows_push {w w' : World} {base : Nat} {out out' hv : Value} {rows : List (List (Int × Int))} {hs : List Value} {r : List (Int × Int)} (hl : hs.length = rows.length) (ho : w.ownsRow base 45 1 out rows.length hs)
    (hi : ∀ (i : Nat) (h : Value) (r : List (Int × Int)), hs[i]? = some h → rows[i]? = some r → w.ownsRow base 42 2 h r.length (rowCells r)) (hr : w.ownsRow base 42 2 hv r.length (rowCells r))
    (hg : w.grownBy w' out.ownBlock) (ho' : w'.ownsRow base 45 1 out' (rows.length + 1) (hs ++ [hv])) : RowsAt w' base out' (rows ++ [r]) := by
  refine ⟨hs ++ [hv], by simp [hl], by simpa using ho', fun i h q hh hq => ?_⟩
  rw [List.getElem?_append] at hh hq
  rw [hl] at hh
  split at hh
  · rename_i hlt
    rw [if_pos hlt] at hq
    have := hi i h q hh hq
    exact own_grown this hg (own_apart this ho (by decide))
  · rename_i hge
    rw [if_neg hge] at hq
    rw [List.getElem?_singleton] at hh hq
    split at hh
    · rename_i h0
      rw [if_pos h0] at hq
      cases hh; cases hq
      exact own_grown hr hg (own_apart hr ho (by decide))
    · cases hh
end Go.Proofs.Ytbjcjddaaegheaa
