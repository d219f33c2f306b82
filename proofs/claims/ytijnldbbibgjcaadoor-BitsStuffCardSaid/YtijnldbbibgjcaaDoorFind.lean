/- bytes.Count, bytes.IndexByte, bytes.Index at a separator of one byte; bits.Extra: what they return; they only read (Extra lays one block). -/
import Derived.Test.YtijnldbbibgjcaaDoorPack
import Derived.Shelf.Bytes.SlCountOne
import Derived.Shelf.Bytes.SlIndexAt
import Derived.Lib.SlBuf
namespace Go.Proofs.YtijnldbbibgjcaaDoor
open Go.RowKit
open Go.Lib (numsL bytesOf HoldsBytes)

theorem numsL_getD (l : List UInt8) (i : Nat) (hi : i < l.length) : (numsL l).getD i 0 = ((l[i]).toNat : Int) := by
  simp [numsL, List.getD, List.getElem?_map, List.getElem?_eq_getElem hi]
theorem holds_cells {w : World} {A : Addr} {l : List UInt8} {c : Nat} (h : HoldsBytes w (.slice (some A) l.length c) l) : ∀ i, i < l.length → w.cell? (A.add i) = some (.int .u8 ((numsL l).getD i 0)) := by
  obtain ⟨p, cap, e, _, h2⟩ := h
  injection e with e1 e2 e3
  intro i hi
  rw [numsL_getD l i hi]
  exact h2 A e1.symm i _ (List.getElem?_eq_getElem hi)
theorem holds_nil {w : World} {l : List UInt8} {n c : Nat} (h : HoldsBytes w (.slice none n c) l) : l = [] := by
  obtain ⟨p, cap, e, h1, _⟩ := h
  injection e with e1 e2 e3
  exact h1 e1.symm

set_option maxRecDepth 100000 in
theorem count_any (A : Option Addr) (c : Nat) (l : List UInt8) (b2 d : Nat) (w : World) (h : HoldsBytes w (.slice A l.length c) l) (hc2 : w.cell? ⟨b2, 0, none⟩ = some (.int .u8 255)) :
    Calls Tryd.prog 21 #[.slice A l.length c, .slice (some ⟨b2, 0, none⟩) 1 d] w fun e w' => e = .returned (.int .i64 (l.count 255)) ∧ w = w' := by
  cases A with
  | none =>
    obtain rfl := holds_nil h
    go_enter Tryd.func21, Tryd.ntmps21
    go_wp2
    rw [run_callFunc_extern Tryd.func25 (by kernel_rfl) (by kernel_rfl) (by kernel_rfl) (e := Extern.BytealgCount.count) (by kernel_rfl), Lib.run_countNil w]
    simp only [Result.andThen]
    rw [Oper.upon_value]
    go_wp2
    go_ret
    exact ⟨rfl, rfl⟩
  | some a =>
    have hc := holds_cells h
    go_enter Tryd.func21, Tryd.ntmps21
    go_wp2
    rw [run_callFunc_extern Tryd.func25 (by kernel_rfl) (by kernel_rfl) (by kernel_rfl) (e := Extern.BytealgCount.count) (by kernel_rfl), Lib.run_countAt w a l.length c (numsL l) (by rw [Lib.numsL_length]) hc 255, Lib.bytesOf_numsL]
    simp only [Result.andThen]
    rw [Oper.upon_value]
    go_wp2
    go_ret
    exact ⟨rfl, rfl⟩

set_option maxRecDepth 100000 in
theorem idxByte_any (a : Addr) (c : Nat) (l : List UInt8) (w : World) (h : HoldsBytes w (.slice (some a) l.length c) l) :
    Calls Tryd.prog 29 #[.slice (some a) l.length c, .int .u8 255] w fun e w' => e = .returned (.int .i64 (Lib.indexByte l 255)) ∧ w = w' := by
  have hc := holds_cells h
  go_enter Tryd.func29, Tryd.ntmps29
  go_wp2
  rw [run_callFunc_extern Tryd.func35 (by kernel_rfl) (by kernel_rfl) (by kernel_rfl) (e := Extern.BytealgIndexByte.indexByte) (by kernel_rfl), Lib.run_indexByteAt w a l.length c (numsL l) (by rw [Lib.numsL_length]) hc 255, Lib.bytesOf_numsL]
  simp only [Result.andThen]
  rw [Oper.upon_value]
  go_wp2
  go_ret
  exact ⟨rfl, rfl⟩

set_option maxRecDepth 100000 in
theorem index_any (a : Addr) (c : Nat) (l : List UInt8) (b2 d : Nat) (w : World) (h : HoldsBytes w (.slice (some a) l.length c) l) (hc2 : w.cell? ⟨b2, 0, none⟩ = some (.int .u8 255)) :
    Calls Tryd.prog 26 #[.slice (some a) l.length c, .slice (some ⟨b2, 0, none⟩) 1 d] w fun e w' => e = .returned (.int .i64 (Lib.indexByte l 255)) ∧ w = w' := by
  go_enter Tryd.func26, Tryd.ntmps26
  go_wp2_with (go_at_call 29; refine (idxByte_any a c l _ h).mono ?_; rintro e w' ⟨rfl, rfl⟩)
  go_ret
  exact ⟨rfl, rfl⟩

theorem holds_alloc {w : World} {v : Value} {l : List UInt8} (h : HoldsBytes w v l) (o : Obj) : HoldsBytes (w.alloc o) v l := by
  obtain ⟨p, cap, e, h1, h2⟩ := h
  exact ⟨p, cap, e, h1, fun a ha i x hx => by
    have := h2 a ha i x hx
    rw [World.cell?_alloc_lt w o _ (World.block_lt_of_cell? w _ this)]; exact this⟩
theorem holds_below {w w' : World} {B : Nat} {v : Value} {l : List UInt8} (h : HoldsBytes w v l) (hb : Below B w w') (hB : w.heap.size ≤ B) : HoldsBytes w' v l := by
  obtain ⟨p, cap, e, h1, h2⟩ := h
  exact ⟨p, cap, e, h1, fun a ha i x hx => by
    have := h2 a ha i x hx
    rw [hb.cell (Nat.lt_of_lt_of_le (World.block_lt_of_cell? w _ this) hB)]; exact this⟩

theorem extra_any (A : Option Addr) (c : Nat) (l : List UInt8) (w : World) (h : HoldsBytes w (.slice A l.length c) l) :
    Calls Tryd.prog 14 #[.slice A l.length c] w fun e w' => e = .returned (.int .i64 (l.count 255)) ∧ Below w.heap.size w w' := by
  go_enter Tryd.func14, Tryd.ntmps14
  go_wp2_with (go_at_call 21; refine (count_any A c l _ _ _ (holds_alloc h _) (by simp)).mono ?_; rintro e w' ⟨rfl, rfl⟩)
  go_ret
  exact ⟨rfl, (Below.refl _ _).alloc (Nat.le_refl _) _⟩
end Go.Proofs.YtijnldbbibgjcaaDoor
