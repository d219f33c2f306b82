/- Tables as values: what Standard hands out, what takes it. -/
import Derived.Test.YtbjcjddaaegheaaGroups
import Derived.Test.YtbjcjddaaegheaaStd
import Derived.Test.YtbjcjddaaegheaaRcodes
namespace Go.Proofs.Ytbjcjddaaegheaa
open Go.RowKit

structure GoodTab (ct vs : List Int) : Prop where
  len : ct.length = 16
  wf : ∀ x ∈ ct, (Lit.int .i64 x).wf = true
  by_ : AreBytes vs
  most : vs.length ≤ 9223372036854775807
def TabAt (w : World) (tc : Array Value) (ct vs : List Int) : Prop :=
  ∃ A c, tc = tabCells ct (.slice A vs.length c) ∧ Reads w w.heap.size 1 A vs.length (bytesV vs)
theorem TabAt.below {w w' : World} {tc : Array Value} {ct vs : List Int} (h : TabAt w tc ct vs) (hb : Below w.heap.size w w') : TabAt w' tc ct vs := by
  obtain ⟨A, c, h1, h2⟩ := h
  exact ⟨A, c, h1, (h2.below hb).more hb.size⟩
theorem TabAt.size {w : World} {tc : Array Value} {ct vs : List Int} (h : TabAt w tc ct vs) (hg : GoodTab ct vs) : tc.size = 17 := by
  obtain ⟨A, c, rfl, _⟩ := h
  exact tabCells_size _ _ hg.len
theorem TabAt.one {w : World} {tc : Array Value} {ct vs : List Int} (h : TabAt w tc ct vs) : tc.all (·.oneCell') = true := by
  obtain ⟨A, c, rfl, _⟩ := h
  refine all_one_of fun i v hv => ?_
  simp only [tabCells, List.getElem?_toArray, List.getElem?_append] at hv
  split at hv
  · rw [List.getElem?_map] at hv
    obtain ⟨x, _, rfl⟩ := Option.map_eq_some_iff.1 hv
    rfl
  · rw [List.getElem?_singleton] at hv
    split at hv
    · cases hv; rfl
    · cases hv
/-- the part of a Standard table -/
def stdP (part : Int) : Nat := if part = 0 then 0 else 1
def dcC (p : Nat) : List Int := natsI (stdC 0 p)
def acC (p : Nat) : List Int := natsI (stdC 1 p)
def dcF (p : Nat) : Nat → Nat × Nat := codesF (dcC p) (stdV 0 p)
def acF (p : Nat) : Nat → Nat × Nat := codesF (acC p) (stdV 1 p)
theorem natsI_wf {l : List Nat} (h : ∀ x ∈ l, x ≤ 1000) : ∀ x ∈ natsI l, (Lit.int .i64 x).wf = true := by
  intro x hx
  simp only [natsI, List.mem_map] at hx
  obtain ⟨n, hn, rfl⟩ := hx
  have := h n hn
  exact Go.WalkArith.wf_i64 (by rw [Int.ofNat_eq_natCast]; omega)
theorem goodDC (part : Int) : GoodTab (dcC (stdP part)) (stdV 0 (stdP part)) := by
  unfold stdP
  split
  · exact ⟨by decide +kernel, natsI_wf (by decide +kernel), by unfold AreBytes; decide +kernel, by decide +kernel⟩
  · exact ⟨by decide +kernel, natsI_wf (by decide +kernel), by unfold AreBytes; decide +kernel, by decide +kernel⟩
theorem goodAC (part : Int) : GoodTab (acC (stdP part)) (stdV 1 (stdP part)) := by
  unfold stdP
  split
  · exact ⟨by decide +kernel, natsI_wf (by decide +kernel), by unfold AreBytes; decide +kernel, by decide +kernel⟩
  · exact ⟨by decide +kernel, natsI_wf (by decide +kernel), by unfold AreBytes; decide +kernel, by decide +kernel⟩
theorem TabBack.at_ {ct vs : List Int} {W : World} {e : Ending} {w' : World} (h : TabBack ct vs W e w') : ∃ tc, e = .returned (.agg tc) ∧ TabAt w' tc ct vs ∧ Below W.heap.size W w' := by
  obtain ⟨A, c, rfl, h1, h2⟩ := h
  exact ⟨_, rfl, ⟨A, c, rfl, h1⟩, h2⟩
theorem std_dc (part : Int) (W : World) : Calls Try.prog 20 #[.int .i64 0, .int .i64 part] W fun e w' => ∃ tc, e = .returned (.agg tc) ∧ TabAt w' tc (dcC (stdP part)) (stdV 0 (stdP part)) ∧ Below W.heap.size W w' := by
  unfold stdP dcC
  split
  · rename_i h; exact (std00 part W h).mono fun _ _ h => h.at_
  · rename_i h; exact (std01 part W (by simpa using h)).mono fun _ _ h => h.at_
theorem std_ac (part : Int) (W : World) : Calls Try.prog 20 #[.int .i64 1, .int .i64 part] W fun e w' => ∃ tc, e = .returned (.agg tc) ∧ TabAt w' tc (acC (stdP part)) (stdV 1 (stdP part)) ∧ Below W.heap.size W w' := by
  unfold stdP acC
  split
  · rename_i h; exact (std10 part W h).mono fun _ _ h => h.at_
  · rename_i h; exact (std11 part W (by simpa using h)).mono fun _ _ h => h.at_
theorem rcodes_at (tc : Array Value) (ct vs : List Int) (W : World) (hg : GoodTab ct vs) (ht : TabAt W tc ct vs) :
    Calls Try.prog 16 #[.agg tc] W fun e w' => e = .returned (.agg (codeC (codesF ct vs))) ∧ Below W.heap.size W w' := by
  obtain ⟨A, c, rfl, hr⟩ := ht
  exact rcodes_any ct vs A vs.length c W hg.len hg.wf rfl hg.by_ hr hg.most
theorem bread_at (A : Option Addr) (c len : Nat) (bs : List Int) (at_ last : Int) (dc ac : Array Value) (dct dvs act avs : List Int) (W : World) (hlen : bs.length = len) (hb : AreBytes bs) (hr : Reads W W.heap.size 1 A len (bytesV bs))
    (hl : len ≤ 140737488355328) (a0 : -9223372036854775808 ≤ at_) (a1 : at_ ≤ 9223372036854775807) (l0 : -9223372036854775808 ≤ last) (l1 : last ≤ 9223372036854775807)
    (hd : GoodTab dct dvs) (hdt : TabAt W dc dct dvs) (ha : GoodTab act avs) (hat : TabAt W ac act avs) :
    Calls Try.prog 18 #[.slice A len c, .int .i64 at_, .int .i64 last, .agg dc, .agg ac] W (BPost W (blockRead bs at_ last dct dvs act avs)) := by
  obtain ⟨DA, dcp, rfl, hdr⟩ := hdt
  obtain ⟨AA, acp, rfl, har⟩ := hat
  exact bread_any A c len bs at_ last dct dvs act avs DA AA dvs.length dcp avs.length acp W hlen hb hr hl a0 a1 l0 l1 hd.len hd.wf rfl hd.by_ hdr hd.most ha.len ha.wf rfl ha.by_ har ha.most
theorem own_cell {w : World} {base e size g n cap : Nat} {xs : List Value} (h : w.ownsRow base e size (.slice (some ⟨g, 0, none⟩) n cap) n xs) : ∀ (j : Nat) (u : Value), xs[j]? = some u → w.cell? ⟨g, j, none⟩ = some u := by
  intro j u hu
  rcases h.2 with ⟨hv, _⟩ | ⟨g', cap', cur, hv, _, hB, _, _, _, ht⟩
  · cases hv
  · injection hv with h1 _ h3
    injection h1 with h1
    injection h1 with h1
    subst h1
    rw [Blk.cell (show Blk w g e cur from hB)]
    rw [← ht, List.getElem?_take] at hu
    split at hu
    · simpa using hu
    · cases hu
end Go.Proofs.Ytbjcjddaaegheaa
