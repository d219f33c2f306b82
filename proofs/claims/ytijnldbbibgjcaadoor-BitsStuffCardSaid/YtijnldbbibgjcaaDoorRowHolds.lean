/- A row of bytes that came in, as bytes; Row of it. -/
import Derived.Test.YtijnldbbibgjcaaDoorRunst
namespace Go.Proofs.YtijnldbbibgjcaaDoor
open Go.RowKit
open Go.Lib (numsL bytesOf HoldsBytes)

theorem holds_to {w w' : World} {v : Value} {l : List UInt8} (h : HoldsBytes w v l) (hb : Below w.heap.size w w') : HoldsBytes w' v l := holds_below h hb (Nat.le_refl _)
theorem row_holds {w : World} {A : Option Addr} {len cap : Nat} {zs : List Int} (h : IsRow .u8 w A len cap zs) :
    ∃ l : List UInt8, l.length = len ∧ len ≤ cap ∧ cap ≤ maxLen ∧ HoldsBytes w (.slice A l.length cap) l := by
  obtain ⟨bs, hbl, hlc, hcm, hby, hR⟩ := row_reads h
  have hl : (bytesOf bs).length = len := by rw [Lib.bytesOf_length, hbl]
  refine ⟨bytesOf bs, hl, hlc, hcm, A, cap, rfl, ?_, ?_⟩
  · rintro rfl
    rcases Nat.eq_zero_or_pos len with h0 | h0
    · exact List.eq_nil_of_length_eq_zero (by omega)
    · obtain ⟨ad, e, _⟩ := hR.2 h0; cases e
  · rintro a rfl i x hx
    have hi := (List.getElem?_eq_some_iff.1 hx).1
    obtain ⟨ad, e, hb, hc⟩ := hR.2 (by omega)
    injection e with e
    subst e
    have hib : i < bs.length := by rw [hbl]; omega
    have hx' : bs[i]? = some bs[i] := List.getElem?_eq_getElem hib
    have hn : bs[i] = (x.toNat : Int) := by
      rw [bytesOf, List.getElem?_map, hx'] at hx
      simp only [Option.map_some, Option.some.injEq] at hx
      obtain ⟨y0, y1⟩ := hby _ (List.getElem_mem hib)
      rw [← hx, UInt8.toNat_ofNat']
      omega
    have := hc i (.int .u8 bs[i]) (by rw [bytesV, List.getElem?_map, hx']; rfl)
    rw [this, hn]
theorem row_n (A : Option Addr) (c n : Nat) (l : List UInt8) (W : World) (hn : l.length = n) (h : HoldsBytes W (.slice A l.length c) l) (hlen : n ≤ maxLen) :
    Calls Tryd.prog 12 #[.slice A n c] W fun e w' => ∃ A' c', e = .returned (.slice A' (rowL l).length c') ∧ HoldsBytes w' (.slice A' (rowL l).length c') (rowL l) ∧ (rowL l).length ≤ 300 ∧ (rowL l).length ≤ c' ∧ c' ≤ maxLen ∧ Below W.heap.size W w' := by
  subst hn
  exact row_any A c l W h (by unfold maxLen at hlen; omega)

end Go.Proofs.YtijnldbbibgjcaaDoor
