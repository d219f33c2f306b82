/- The chapter's examples hold: 'known' of chapter 12 returns true; nothing that lay has turned. No condition. -/
import Derived.Test.YtijnldbbibgjcaaDoorReplace
import Derived.Laws.IdiomStrings
import Derived.Laws.BytesArg
namespace Go.Proofs.YtijnldbbibgjcaaDoor
open Go.RowKit
open Go.Lib (numsL bytesOf HoldsBytes)

theorem convert_holds {w : World} {v : Value} {l : List UInt8} (h : HoldsBytes w v l) : (convert 22 9 v).run Tryd.prog w = .ok (.string ⟨l.toArray⟩) w := by
  obtain ⟨p, cap, rfl, h1, h2⟩ := h
  cases p with
  | none =>
    obtain rfl := h1 rfl
    exact run_convert_bytes_nil (P := Tryd.prog) w 22 5 Tryd.underlying22 Tryd.underlying5 _ _ 9 Tryd.underlying9
  | some a => exact run_convert_bytes_back (P := Tryd.prog) w 22 9 5 a cap l Tryd.underlying22 Tryd.underlying5 Tryd.underlying9 (fun i hi => h2 a rfl i _ (List.getElem?_eq_getElem hi))

theorem known_any (w : World) : Calls Tryd.prog 9 #[] w fun e w' => e = .returned (.bool true) ∧ Below w.heap.size w w' := by
  go_enter Tryd.func9, Tryd.ntmps9
  go_wp2_with fail
  have hb0 : Below w.heap.size w (w.alloc (.cells #[.int .i64 3, .int .i64 5] 25)) := (Below.refl _ w).alloc (Nat.le_refl _) _
  have hL : Reads (w.alloc (.cells #[.int .i64 3, .int .i64 5] 25)) (w.alloc (.cells #[.int .i64 3, .int .i64 5] 25)).heap.size 2 (some ⟨w.heap.size, 0, none⟩) 1 (codesV [(3, 5)]) := by
    refine ⟨rfl, fun _ => ⟨_, rfl, by simp, fun j u hu => ?_⟩⟩
    match j, hu with
    | 0, hu => simp [codesV, codeV] at hu; subst hu; simp [Addr.add]
    | 1, hu => simp [codesV, codeV] at hu; subst hu; simp [Addr.add]
  refine (pack_any (some ⟨w.heap.size, 0, none⟩) 1 [(3, 5)] (by simp) (by intro c hc; simp at hc; subst hc; decide) _ hL).mono ?_
  rintro e w1 ⟨v, rfl, hown, hb1⟩
  have e1 : codesBits [(3, 5)] = [true, false, true] := by decide
  have e2 : packB [true, false, true] = [191] := by decide
  rw [e1, e2] at hown
  rw [e1]
  obtain ⟨g, cap, rfl⟩ := ownsRow_succ (k := 0) hown
  have hc := hown.cellAt 0 (by decide)
  simp [bytesV] at hc
  have hB := hb0.trans (hb1.mono (by simp))
  clear hown hb1 hL hb0 e1 e2
  go_wp2_with fail
  have h4 : HoldsBytes (w1.alloc (.cells #[.int .u8 255, .int .u8 216] 5)) (.slice (some ⟨w1.heap.size, 0, none⟩) 2 2) [255, 216] := by
    refine ⟨some ⟨w1.heap.size, 0, none⟩, 2, rfl, (fun e => by cases e), fun a ea i x hx => ?_⟩
    injection ea with ea
    rw [← ea]
    match i, hx with
    | 0, hx => simp at hx; subst hx; simp [Addr.add]
    | 1, hx => simp at hx; subst hx; simp [Addr.add]
  refine (stuff_any (some ⟨w1.heap.size, 0, none⟩) 2 [255, 216] _ h4 (by simp) (by simp) (by simp)).mono ?_
  rintro e w2 ⟨v, rfl, hv, hb2⟩
  have hcv := convert_holds hv
  have e3 : stuffU [255, 216] = [255, 0, 216] := by decide
  rw [e3] at hcv
  clear hv h4 e3
  have hB2 := hB.trans (((Below.refl _ w1).alloc (Nat.le_refl _) _ |>.trans (hb2.mono (by simp))).mono hB.size)
  clear hb2
  go_wp2_with fail
  have h5 : HoldsBytes (w2.alloc (.cells #[.int .u8 255] 5)) (.slice (some ⟨w2.heap.size, 0, none⟩) 1 1) [255] := by
    refine ⟨some ⟨w2.heap.size, 0, none⟩, 1, rfl, (fun e => by cases e), fun a ea i x hx => ?_⟩
    injection ea with ea
    rw [← ea]
    match i, hx with
    | 0, hx => simp at hx; subst hx; simp [Addr.add]
  refine (extra_any (some ⟨w2.heap.size, 0, none⟩) 1 [255] _ h5).mono ?_
  rintro e w3 ⟨rfl, hb3⟩
  have hB3 := hB2.trans (((Below.refl _ w2).alloc (Nat.le_refl _) _ |>.trans (hb3.mono (by simp))).mono hB2.size)
  clear hb3 h5
  go_wp2_with fail
  go_ret
  exact ⟨rfl, hB3⟩
end Go.Proofs.YtijnldbbibgjcaaDoor
