/- law13.tables: the two Standard tables of a part. -/
import Derived.Test.YtbjcjddaaegheaaTabAt
namespace Go.Proofs.Ytbjcjddaaegheaa
open Go.RowKit
theorem size27 {tc : Array Value} (h : tc.size = 17) : (Try.prog.info? 27).map (·.size) = some tc.size := by rw [h]; kernel_rfl
theorem zero27 : ∀ w, (zeroValue 27).run Try.prog w = .ok (.agg (tabCells (List.replicate 16 0) (.slice none 0 0))) w := fun w => by kernel_rfl
theorem results_cells2 {P : Program} {fn : Func} {p q : Tmp} {t u : TypeId} (h : fn.results = #[.cell p t, .cell q u]) (tmps : Array Value) (w : World) (g g1 : Nat) (T T1 : TypeId) (cs cs1 : Array Value) (d d1 : TypeDesc)
    (hp : tmps.getD p undef = .pointer (some ⟨g, 0, none⟩)) (hq : tmps.getD q undef = .pointer (some ⟨g1, 0, none⟩))
    (hB : Blk w g T cs) (hu : P.underlying t = some d) (hd : d.isRow = true) (hi : (P.info? t).map (·.size) = some cs.size)
    (hB1 : Blk w g1 T1 cs1) (hu1 : P.underlying u = some d1) (hd1 : d1.isRow = true) (hi1 : (P.info? u).map (·.size) = some cs1.size) :
    (results fn tmps).run P w = .ok (.tuple #[.agg cs, .agg cs1]) w := by
  have hp' : tmps[p]?.getD undef = .pointer (some ⟨g, 0, none⟩) := by simpa using hp
  have hq' : tmps[q]?.getD undef = .pointer (some ⟨g1, 0, none⟩) := by simpa using hq
  simp [results, h, hp', hq', asAddr, run_loadVar_row w g T t cs (0, 0) d hB hu (by cases d <;> simp_all [TypeDesc.isRow]) hi, run_loadVar_row w g1 T1 u cs1 (0, 0) d1 hB1 hu1 (by cases d1 <;> simp_all [TypeDesc.isRow]) hi1]
theorem cell_in_blk {w : World} {g : Nat} {t : TypeId} {cs : Array Value} {a : Addr} {u : Value} (hB : Blk w g t cs) (ha : a.block = g) (h : w.cell? a = some u) : ∃ i : Nat, cs[i]? = some u := by
  subst ha
  unfold Blk at hB
  unfold World.cell? at h
  rw [hB] at h
  simp only at h
  split at h
  · cases h
  · exact ⟨_, h⟩
theorem TabAt.off {w w' : World} {tc : Array Value} {ct vs : List Int} (h : TabAt w tc ct vs) {g : Nat} {t : TypeId} {cs : Array Value} (hB : Blk w g t cs) (hno : ∀ (i : Nat) x, cs[i]? ≠ some (.int .u8 x)) (hg : w.grownBy w' (some g)) : TabAt w' tc ct vs := by
  obtain ⟨A, c, h1, h2, h3⟩ := h
  refine ⟨A, c, h1, h2, fun hn => ?_⟩
  obtain ⟨ad, e, hb, hc⟩ := h3 hn
  refine ⟨ad, e, Nat.lt_of_lt_of_le hb hg.size, fun j u hu => ?_⟩
  rw [← hc j u hu]
  refine World.cell?_of_block (hg.block _ (by rw [block_of_add]; exact hb) fun e' => ?_)
  injection e' with e'
  have hcu := hc j u hu
  obtain ⟨i, hi⟩ := cell_in_blk hB e' hcu
  rw [bytesV, List.getElem?_map] at hu
  obtain ⟨x, _, rfl⟩ := Option.map_eq_some_iff.1 hu
  exact hno i x hi
theorem tabCells_no {ct : List Int} {A : Option Addr} {n c : Nat} (i : Nat) (x : Int) : (tabCells ct (.slice A n c))[i]? ≠ some (.int .u8 x) := by
  intro hv
  simp only [tabCells, List.getElem?_toArray, List.getElem?_append] at hv
  split at hv
  · rw [List.getElem?_map] at hv
    obtain ⟨x, _, h⟩ := Option.map_eq_some_iff.1 hv
    cases h
  · rw [List.getElem?_singleton] at hv
    split at hv <;> cases hv
theorem TabAt.no {w : World} {tc : Array Value} {ct vs : List Int} (h : TabAt w tc ct vs) (i : Nat) (x : Int) : tc[i]? ≠ some (.int .u8 x) := by
  obtain ⟨A, c, rfl, _⟩ := h
  exact tabCells_no i x
set_option maxHeartbeats 1000000 in
theorem tables_any (part : Int) (W : World) : Calls Try.prog 9 #[.int .i64 part] W fun e w' => ∃ dc ac, e = .returned (.tuple #[.agg dc, .agg ac]) ∧ TabAt w' dc (dcC (stdP part)) (stdV 0 (stdP part)) ∧ TabAt w' ac (acC (stdP part)) (stdV 1 (stdP part)) ∧ Below W.heap.size W w' := by
  have hz := zero27
  have hs0 : (tabCells (List.replicate 16 0) (.slice none 0 0)).size = 17 := tabCells_size _ _ rfl
  obtain ⟨t0, ht0⟩ : ∃ t0, t0 = tabCells (List.replicate 16 0) (.slice none 0 0) := ⟨_, rfl⟩
  rw [← ht0] at hz hs0
  have hno : ∀ (i : Nat) x, t0[i]? ≠ some (.int .u8 x) := fun i x => by rw [ht0]; exact tabCells_no i x
  have KD := Lib.hid (std_dc part)
  have KA := Lib.hid (std_ac part)
  have hgd := Lib.hid (goodDC part)
  have hga := Lib.hid (goodAC part)
  have HS := Lib.hid hs0
  have hB := (Blk.new W 27 t0).alloc (.cells t0 27)
  have hC := Blk.new (W.alloc (.cells t0 27)) 27 t0
  rw [World.size_alloc] at hC
  have hbe : Below W.heap.size W ((W.alloc (.cells t0 27)).alloc (.cells t0 27)) := ((Below.refl _ _).alloc (Nat.le_refl _) _).alloc (by simp) _
  clear ht0 hs0
  go_enter Try.func9, Try.ntmps9
  go_wp2_with fail
  go_at_call 20
  generalize (W.alloc (.cells t0 27)).alloc (.cells t0 27) = w0 at *
  refine (KD.out _).mono ?_
  rintro e w1 ⟨dc, rfl, ht1, hb1⟩
  have hB1 := hB.below hb1 hB.lt
  have hC1 := hC.below hb1 hC.lt
  have hbe1 := hbe.trans (hb1.mono hbe.size)
  clear hB hC hbe hb1
  go_wp2_with fail
  go_at_call 20
  refine (KA.out _).mono ?_
  rintro e w2 ⟨ac, rfl, ht2, hb2⟩
  have hB2 := hB1.below hb2 hB1.lt
  have hC2 := hC1.below hb2 hC1.lt
  have hbe2 := hbe1.trans (hb2.mono hbe1.size)
  have ht1' := ht1.below hb2
  have sd := size27 (ht1'.size hgd.out)
  have sa := size27 (ht2.size hga.out)
  have one1 := ht1'.one
  have one2 := ht2.one
  have hsd : t0.size = dc.size := by rw [HS.out, ht1'.size hgd.out]
  have hsa : t0.size = ac.size := by rw [HS.out, ht2.size hga.out]
  have HSD := Lib.hid hsd
  have HSA := Lib.hid hsa
  have HNO := Lib.hid hno
  clear ht1 hB1 hC1 hb2 hsd hsa hno hbe1
  go_wp2_with (first | (refine wpList_store_blk rfl 27 (.tmp 2) (.tmp 5) rfl W.heap.size rfl 27 t0 dc rfl hB2 sd HSD.out one1 ?_; intro w3 hB3 hg3 hs3; clear hs3; have hC3 := hC2.grown hg3 (fun e => by injection e with e; omega); have ht3 := ht1'.off hB2 HNO.out hg3; have hu3 := ht2.off hB2 HNO.out hg3; have hbe3 := hbe2.grown hg3 hbe2.size (fun k e => by cases e; exact Nat.le_refl _)) | (refine wpList_store_blk rfl 27 (.tmp 3) (.tmp 7) rfl (W.heap.size + 1) rfl 27 t0 ac rfl hC3 sa HSA.out one2 ?_; intro w4 hC4 hg4 hs4; clear hs4; have hB4 := hB3.grown hg4 (fun e => by injection e with e; omega); have ht4 := ht3.off hC3 HNO.out hg4; have hu4 := hu3.off hC3 HNO.out hg4; have hbe4 := hbe3.grown hg4 hbe3.size (fun k e => by cases e; omega)))
  exact bodyPost_ret (results_cells2 rfl _ _ W.heap.size (W.heap.size + 1) 27 27 dc ac _ _ rfl rfl hB4 Try.underlying27 rfl sd hC4 Try.underlying27 rfl sa) rfl ⟨dc, ac, rfl, ht4, hu4, hbe4⟩
end Go.Proofs.Ytbjcjddaaegheaa
