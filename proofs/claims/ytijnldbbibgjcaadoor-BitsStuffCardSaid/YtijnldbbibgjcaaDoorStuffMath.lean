/- Stuffing: plain facts on lists of bytes and on slices; no function of the program. -/
import Derived.Test.YtijnldbbibgjcaaDoorFind
import Derived.Test.YtijnldbbibgjcaaDoorAppend
namespace Go.Proofs.YtijnldbbibgjcaaDoor
open Go.RowKit
open Go.Lib (numsL bytesOf HoldsBytes)

def stuffU (l : List UInt8) : List UInt8 := l.flatMap fun x => if x = 255 then [255, 0] else [x]
theorem stuffU_append (a b : List UInt8) : stuffU (a ++ b) = stuffU a ++ stuffU b := by simp [stuffU]
theorem stuffU_none (l : List UInt8) (h : l.count 255 = 0) : stuffU l = l := by
  induction l with
  | nil => rfl
  | cons x l ih =>
    rw [List.count_cons] at h
    have hx : ¬ x = 255 := by
      intro e; subst e; simp at h
    have hl : l.count 255 = 0 := by omega
    show (if x = 255 then [255, 0] else [x]) ++ stuffU l = x :: l
    rw [if_neg hx, ih hl]; rfl
theorem stuffU_length (l : List UInt8) : (stuffU l).length = l.length + l.count 255 := by
  induction l with
  | nil => rfl
  | cons x l ih =>
    show ((if x = 255 then [255, 0] else [x]) ++ stuffU l).length = _
    rw [List.length_append, ih, List.count_cons]
    by_cases h : x = 255
    · subst h; simp; omega
    · simp [h]; omega
theorem indexByte_at (l : List UInt8) (h : 0 < l.count 255) : ∃ k : Nat, Lib.indexByte l 255 = k ∧ k < l.length ∧ l[k]? = some 255 ∧ (l.take k).count 255 = 0 := by
  induction l with
  | nil => simp at h
  | cons x l ih =>
    unfold Lib.indexByte
    by_cases hx : x = 255
    · subst hx
      exact ⟨0, by simp, by simp, by simp, by simp⟩
    · rw [List.count_cons] at h
      have hb : (x == 255) = false := by simpa using hx
      rw [hb] at h ⊢
      obtain ⟨k, h1, h2, h3, h4⟩ := ih (by simpa using h)
      refine ⟨k + 1, ?_, by simpa using h2, by simpa using h3, ?_⟩
      · rw [h1]
        have : ((k : Int) == -1) = false := by simp
        simp [this]
      · rw [List.take_succ_cons, List.count_cons, h4, hb]; rfl

theorem stuffU_split (l : List UInt8) (st k : Nat) (hk : k < l.length - st) (h3 : (l.drop st)[k]? = some 255) (h4 : ((l.drop st).take k).count 255 = 0) :
    stuffU (l.take (st + k + 1)) = stuffU (l.take st) ++ (l.drop st).take k ++ [255, 0] := by
  have hlt : st + k < l.length := by omega
  rw [List.getElem?_drop] at h3
  have hx : l[st + k] = 255 := by rw [List.getElem?_eq_getElem hlt] at h3; exact Option.some.inj h3
  have e : l.take (st + k + 1) = l.take st ++ (l.drop st).take k ++ [255] := by
    rw [List.take_succ_eq_append_getElem hlt, hx, List.take_add]
  rw [e, stuffU_append, stuffU_append, stuffU_none _ h4]
  rfl

theorem count_split (l : List UInt8) (st k : Nat) (hk : k < l.length - st) (h3 : (l.drop st)[k]? = some 255) (h4 : ((l.drop st).take k).count 255 = 0) :
    (l.drop st).count 255 = (l.drop (st + k + 1)).count 255 + 1 := by
  have hlt : st + k < l.length := by omega
  have hlt2 : k < (l.drop st).length := by rw [List.length_drop]; omega
  have hx : (l.drop st)[k] = 255 := by rw [List.getElem?_eq_getElem hlt2] at h3; exact Option.some.inj h3
  have e : l.drop st = (l.drop st).take k ++ 255 :: l.drop (st + k + 1) := by
    have := (List.take_append_drop k (l.drop st)).symm
    rw [List.drop_eq_getElem_cons hlt2, hx, List.drop_drop] at this
    rw [show st + k + 1 = st + (k + 1) by omega]; exact this
  rw [e, List.count_append, h4, List.count_cons]
  simp

def cutA (a : Addr) (c st : Nat) : Addr := if c = st then a else a.add st
def cutV (a : Addr) (n c st : Nat) : Value := .slice (some (cutA a c st)) (n - st) (c - st)
def midV (a : Addr) (c st j : Nat) : Value := .slice (some (cutA a c st)) (j - st) (c - st)
theorem run_slice_cutV {P : Program} (W : World) (t e : TypeId) (ht : P.underlying t = some (.slice e)) (hz : ∀ w, (Go.sizeOf e).run P w = .ok 1 w) (a : Addr) (n c st : Nat) (hb : st ≤ n) :
    (Instr.slice t (.slice (some a) n c) (some (.int .i64 (st : Int))) none none).run P W = .ok (cutV a n c st) W := by
  have ht' : P.underlying t = some (.slice (P.elem t)) := by simp [Program.elem, ht]
  have he : P.elem t = e := by simp [Program.elem, ht]
  rw [run_slice_l W t _ _ _ ht' .i64 _ (by omega) (by omega), he, hz]
  unfold cutV cutA
  by_cases h0 : c = st
  · simp [Result.andThen, sliced, h0]
  · simp [Result.andThen, sliced, h0]
theorem run_slice_midV {P : Program} (W : World) (t e : TypeId) (ht : P.underlying t = some (.slice e)) (hz : ∀ w, (Go.sizeOf e).run P w = .ok 1 w) (a : Addr) (n c st j : Nat) (hb : st ≤ j) (hj : j ≤ c) :
    (Instr.slice t (.slice (some a) n c) (some (.int .i64 (st : Int))) (some (.int .i64 (j : Int))) none).run P W = .ok (midV a c st j) W := by
  have ht' : P.underlying t = some (.slice (P.elem t)) := by simp [Program.elem, ht]
  have he : P.elem t = e := by simp [Program.elem, ht]
  rw [run_slice_lh W t _ _ _ ht' .i64 .i64 _ _ (by omega) (by omega) (by omega), he, hz]
  unfold midV cutA
  by_cases h0 : c = st
  · simp [Result.andThen, sliced, h0]
  · simp [Result.andThen, sliced, h0]
theorem holds_cut {w : World} {a : Addr} {l : List UInt8} {c : Nat} (h : HoldsBytes w (.slice (some a) l.length c) l) (st : Nat) (hs : st ≤ l.length) (hc : l.length ≤ c) : HoldsBytes w (cutV a l.length c st) (l.drop st) := by
  obtain ⟨p, cap, e, h1, h2⟩ := h
  injection e with e1 e2 e3
  refine ⟨some (cutA a c st), c - st, by unfold cutV; rw [List.length_drop], (fun e => by cases e), fun b hb i x hx => ?_⟩
  injection hb with hb
  have hlt : i < (l.drop st).length := (List.getElem?_eq_some_iff.1 hx).1
  rw [List.length_drop] at hlt
  have hne : ¬ c = st := by omega
  rw [← hb, cutA, if_neg hne, add_of_add]
  rw [List.getElem?_drop] at hx
  exact h2 a e1.symm _ x hx
theorem holds_mid {w : World} {a : Addr} {l : List UInt8} {c : Nat} (h : HoldsBytes w (.slice (some a) l.length c) l) (st j : Nat) (hs : st ≤ j) (hj : j ≤ l.length) (hc : l.length ≤ c) : HoldsBytes w (midV a c st j) ((l.drop st).take (j - st)) := by
  obtain ⟨p, cap, e, h1, h2⟩ := h
  injection e with e1 e2 e3
  have hlen : ((l.drop st).take (j - st)).length = j - st := by rw [List.length_take, List.length_drop]; omega
  refine ⟨some (cutA a c st), c - st, by unfold midV; rw [hlen], (fun e => by cases e), fun b hb i x hx => ?_⟩
  injection hb with hb
  have hlt : i < ((l.drop st).take (j - st)).length := (List.getElem?_eq_some_iff.1 hx).1
  rw [hlen] at hlt
  have hne : ¬ c = st := by omega
  rw [← hb, cutA, if_neg hne, add_of_add]
  rw [List.getElem?_take, if_pos hlt, List.getElem?_drop] at hx
  exact h2 a e1.symm _ x hx
theorem index_n (a : Addr) (c n : Nat) (l : List UInt8) (b2 d : Nat) (w : World) (hn : l.length = n) (h : HoldsBytes w (.slice (some a) n c) l) (hc2 : w.cell? ⟨b2, 0, none⟩ = some (.int .u8 255)) :
    Calls Tryd.prog 26 #[.slice (some a) n c, .slice (some ⟨b2, 0, none⟩) 1 d] w fun e w' => e = .returned (.int .i64 (Lib.indexByte l 255)) ∧ w = w' := by
  subst hn
  exact index_any a c l b2 d w h hc2
theorem index_cut {w : World} {a : Addr} {l : List UInt8} {c b2 d : Nat} (_h : HoldsBytes w (.slice (some a) l.length c) l) (st : Nat) (_hs : st ≤ l.length) (_hc : l.length ≤ c) (wr : World) (h2 : wr.cell? ⟨b2, 0, none⟩ = some (.int .u8 255))
    (hh : HoldsBytes wr (cutV a l.length c st) (l.drop st)) :
    Calls Tryd.prog 26 #[cutV a l.length c st, .slice (some ⟨b2, 0, none⟩) 1 d] wr fun e w' => e = .returned (.int .i64 (Lib.indexByte (l.drop st) 255)) ∧ wr = w' :=
  index_n (cutA a c st) (c - st) (l.length - st) (l.drop st) b2 d wr (by rw [List.length_drop]) hh h2
theorem bytesV_at {l : List UInt8} {j : Nat} {u : Value} (h : (bytesV (numsL l))[j]? = some u) : ∃ x, l[j]? = some x ∧ u = .int .u8 (x.toNat : Int) := by
  rw [bytesV, numsL, List.map_map, List.getElem?_map] at h
  obtain ⟨x, hx, rfl⟩ := Option.map_eq_some_iff.1 h
  exact ⟨x, hx, rfl⟩
theorem reads_of_holds {w : World} {A : Option Addr} {l : List UInt8} {c : Nat} (h : HoldsBytes w (.slice A l.length c) l) : Reads w w.heap.size 1 A l.length (bytesV (numsL l)) := by
  obtain ⟨p, cap, e, h1, h2⟩ := h
  injection e with e1 e2 e3
  subst e1
  refine ⟨by simp [bytesV, numsL], fun hn => ?_⟩
  cases A with
  | none => rw [h1 rfl] at hn; simp at hn
  | some a =>
    have h0 := h2 a rfl 0 l[0] (List.getElem?_eq_getElem hn)
    refine ⟨a, rfl, ?_, fun j u hu => ?_⟩
    · have := World.block_lt_of_cell? w _ h0
      rwa [block_of_add] at this
    · obtain ⟨x, hx, rfl⟩ := bytesV_at hu
      exact h2 a rfl j x hx
theorem holds_own {w : World} {base : Nat} {e : TypeId} {v : Value} {l : List UInt8} (h : w.ownsRow base e 1 v l.length (bytesV (numsL l))) : HoldsBytes w v l := by
  rcases h.2 with ⟨rfl, h0⟩ | ⟨g, cap, cur, rfl, _, _, _⟩
  · exact ⟨none, 0, by rw [h0], fun _ => List.eq_nil_of_length_eq_zero h0, (fun a e => by cases e)⟩
  · refine ⟨some ⟨g, 0, none⟩, cap, rfl, (fun e => by cases e), fun a ea i x hx => ?_⟩
    injection ea with ea
    rw [← ea]
    exact h.cells (g := g) rfl i _ (by rw [bytesV, numsL, List.map_map, List.getElem?_map, hx]; rfl)
theorem holds_buf {w0 wr : World} {h N : Nat} {acc : List UInt8} (hb : Lib.Buf w0 wr h N acc) (hN : acc.length = N) : HoldsBytes wr (.slice (some ⟨h, 0, none⟩) N N) acc :=
  ⟨some ⟨h, 0, none⟩, N, by rw [hN], (fun e => by cases e), fun a ea i x hx => by
    injection ea with ea
    rw [← ea]
    have := hb.holds i x hx
    have e : (⟨h, 0, none⟩ : Addr).add i = ⟨h, i, none⟩ := by unfold Addr.add; split <;> simp_all
    rw [e]; exact this⟩
theorem buf_made (w : World) (N : Nat) : Lib.Buf w (w.alloc (.cells (madeCells #[.int .u8 0] N) 5)) w.heap.size N [] :=
  Lib.Buf.start w (madeCells #[.int .u8 0] N) 5 N 0 (by rw [size_madeCells]; exact Nat.le_refl _)
end Go.Proofs.YtijnldbbibgjcaaDoor
