/- law13.Bits: the bytes of a block's bits. -/
import Derived.Test.YtbjcjddaaegheaaRPack
import Derived.Test.YtbjcjddaaegheaaRGroups
import Derived.Test.YtbjcjddaaegheaaTables
import Derived.Test.YtbjcjddaaegheaaGrpM
namespace Go.Proofs.Ytbjcjddaaegheaa
open Go.RowKit

def bitsS (p : Nat) (z : List Int) (last : Int) : List Int := packB (codesB (groupsS (dcF p) (acF p) z last).flatten)
theorem tab_noU8 (i : Nat) (x : Int) : (tabCells (List.replicate 16 0) (.slice none 0 0))[i]? ≠ some (.int .u8 x) := tabCells_no i x

theorem append42r {ops : Array Oper} {rest : List Oper} {o : Oper} {a : Act} {w : World} {Q : Exit → Act → World → Prop} (hgd : o.guard = none) (s x : Operand)
    (ho : o.op = .call { callee := .builtin .append, args := #[s, x], argTypes := #[45, 45] }) (base : Nat) (v : Value) (n : Nat) (r : List (Int × Int)) (hs : a.eval s = v) (hown : w.ownsRow base 42 2 v n (rowCells r))
    (B : Nat) (A : Option Addr) (m c : Nat) (q : List (Int × Int)) (hx : a.eval x = .slice A m c) (hr : Reads w B 2 A m (rowCells q)) (hn : n + m ≤ 1000000) (hbase : base ≤ w.heap.size)
    (h : ∀ v' w', w'.ownsRow base 42 2 v' (n + m) (rowCells (r ++ q)) → w.grownBy w' v.ownBlock → wpList Try.prog ops Q rest (a.put o.dst v') w') : wpList Try.prog ops Q (o :: rest) a w := by
  have hI := info42
  obtain ⟨i, hi, hi2⟩ := Option.map_eq_some_iff.1 hI
  simp only [Prod.mk.injEq] at hi2
  obtain ⟨hz, hsz, hby⟩ := hi2
  exact wpList_append_any w hgd s x 45 ho base 42 i _ 2 16 Try.underlying45 hi hz hsz hby rfl (by decide) v n (rowCells r) hs hown B A m c (rowCells q) hx hr (rowCells_one q) (by simp only [maxLen]; omega) (by omega) hbase (fun v' w' h1 h2 _ => h v' w' (by rw [rowCells_append]; exact h1) h2)

set_option maxRecDepth 100000 in
set_option maxHeartbeats 1000000 in
theorem bits_any (z : List Int) (last part : Int) (W : World) (hz : Zigged z) (l0 : -1024 ≤ last) (l1 : last ≤ 1023) :
    Calls Try.prog 11 #[.agg (intsC z), .int .i64 last, .int .i64 part] W fun e w' => ∃ v, e = .returned v ∧ w'.ownsRow W.heap.size 5 1 v (bitsS (stdP part) z last).length (bytesV (bitsS (stdP part) z last)) ∧ Below W.heap.size W w' := by
  have hgd := goodDC part
  have hga := goodAC part
  have KT := Lib.hid (tables_any part)
  have KG := Lib.hid (fun w => rgroups_any z last (dcF (stdP part)) (acF (stdP part)) w hz l0 l1)
  have KD := Lib.hid (fun tc w => rcodes_at tc (dcC (stdP part)) (stdV 0 (stdP part)) w hgd)
  have KA := Lib.hid (fun tc w => rcodes_at tc (acC (stdP part)) (stdV 1 (stdP part)) w hga)
  have KP := Lib.hid (fun A c cs w => rpack_any A c cs w)
  have hsane := groups_sane (codesF_fits (dcC (stdP part)) (stdV 0 (stdP part)) hgd.len) (codesF_fits (acC (stdP part)) (stdV 1 (stdP part)) hga.len) hz l0 l1
  obtain ⟨hl1, hl2⟩ := groups_len (fd := dcF (stdP part)) (fa := acF (stdP part)) (last := last) hz.len
  have hz33 := size33 z hz.len
  obtain ⟨cz, hcz⟩ : ∃ cz, cz = intsC z := ⟨_, rfl⟩
  rw [← hcz] at hz33 KG ⊢
  unfold bitsS
  change Sane (groupsS (dcF (stdP part)) (acF (stdP part)) z last).flatten at hsane
  change Hid (∀ (tc : Array Value) (w : World), TabAt w tc (dcC (stdP part)) (stdV 0 (stdP part)) → Calls Try.prog 16 #[.agg tc] w fun e w' => e = .returned (.agg (codeC (dcF (stdP part)))) ∧ Below w.heap.size w w') at KD
  change Hid (∀ (tc : Array Value) (w : World), TabAt w tc (acC (stdP part)) (stdV 1 (stdP part)) → Calls Try.prog 16 #[.agg tc] w fun e w' => e = .returned (.agg (codeC (acF (stdP part)))) ∧ Below w.heap.size w w') at KA
  obtain ⟨cd, hcd⟩ : ∃ cd, cd = codeC (dcF (stdP part)) := ⟨_, rfl⟩
  obtain ⟨ca, hca⟩ : ∃ ca, ca = codeC (acF (stdP part)) := ⟨_, rfl⟩
  rw [← hcd] at KD KG
  rw [← hca] at KA KG
  obtain ⟨G, hG⟩ : ∃ G, G = groupsS (dcF (stdP part)) (acF (stdP part)) z last := ⟨_, rfl⟩
  rw [← hG] at KG hsane hl1 hl2 ⊢
  obtain ⟨F, hF⟩ : ∃ F, F = G.flatten := ⟨_, rfl⟩
  rw [← hF] at hsane hl1 ⊢
  have HF := Lib.hid hF
  have hsd := fun (w : World) (tc : Array Value) (h : TabAt w tc (dcC (stdP part)) (stdV 0 (stdP part))) => size27 (h.size hgd)
  have hsa := fun (w : World) (tc : Array Value) (h : TabAt w tc (acC (stdP part)) (stdV 1 (stdP part))) => size27 (h.size hga)
  have HGD := Lib.hid hgd
  have HGA := Lib.hid hga
  have hz27 := zero27
  have hs0 : (tabCells (List.replicate 16 0) (.slice none 0 0)).size = 17 := tabCells_size _ _ rfl
  have HNO := Lib.hid tab_noU8
  obtain ⟨t0, ht0⟩ : ∃ t0, t0 = tabCells (List.replicate 16 0) (.slice none 0 0) := ⟨_, rfl⟩
  rw [← ht0] at hz27 hs0 HNO
  obtain ⟨dt, hdt⟩ : ∃ x, x = dcC (stdP part) := ⟨_, rfl⟩
  obtain ⟨dv, hdv⟩ : ∃ x, x = stdV 0 (stdP part) := ⟨_, rfl⟩
  obtain ⟨aT, haT⟩ : ∃ x, x = acC (stdP part) := ⟨_, rfl⟩
  obtain ⟨av, hav⟩ : ∃ x, x = stdV 1 (stdP part) := ⟨_, rfl⟩
  rw [← hdt, ← hdv, ← haT, ← hav] at KT
  rw [← hdt, ← hdv] at KD HGD hsd
  rw [← haT, ← hav] at KA HGA hsa
  have HSANE := Lib.hid hsane
  have HSD := Lib.hid hsd
  have HSA := Lib.hid hsa
  have HS0 := Lib.hid hs0
  have hB0 := Blk.new W 33 cz
  have hbe0 : Below W.heap.size W (W.alloc (.cells cz 33)) := (Below.refl _ _).alloc (Nat.le_refl _) _
  clear hgd hga hcz hcd hca hG hF hsane hsd hsa ht0 hs0 hdt hdv haT hav hz
  go_enter Try.func11, Try.ntmps11
  go_wp2_with fail
  go_at_call 9
  generalize W.alloc (.cells cz 33) = w0 at *
  refine (KT.out _).mono ?_
  rintro e w1 ⟨dc, ac, rfl, htd, hta, hb1⟩
  have hB1 := hB0.below hb1 hB0.lt
  have hbe1 := hbe0.trans (hb1.mono hbe0.size)
  have sd := HSD.out _ _ htd
  have sa := HSA.out _ _ hta
  have one1 := htd.one
  have one2 := hta.one
  have ed : t0.size = dc.size := by rw [HS0.out, htd.size HGD.out]
  have ea : t0.size = ac.size := by rw [HS0.out, hta.size HGA.out]
  have ED := Lib.hid ed
  have EA := Lib.hid ea
  have hB2 := (hB1.alloc (.cells t0 27)).alloc (.cells t0 27)
  have hD2 := (Blk.new w1 27 t0).alloc (.cells t0 27)
  have hA2 := Blk.new (w1.alloc (.cells t0 27)) 27 t0
  rw [World.size_alloc] at hA2
  have hbs : Below w1.heap.size w1 ((w1.alloc (.cells t0 27)).alloc (.cells t0 27)) := ((Below.refl _ _).alloc (Nat.le_refl _) _).alloc (by simp) _
  have htd2 := htd.below hbs
  have hta2 := hta.below hbs
  have hbe2 := hbe1.trans (hbs.mono hbe1.size)
  have hg1 := hbe1.size
  have hlt1 := hB1.lt
  clear htd hta hB1 hB0 hb1 hbe0 hbe1 hbs ed ea HSD HSA
  go_wp2_with (first | (refine wpList_store_blk rfl 27 (.tmp 7) (.tmp 17) rfl w1.heap.size rfl 27 t0 dc rfl hD2 sd ED.out one1 ?_; intro w3 hD3 hg3 hs3; clear hs3; have hA3 := hA2.grown hg3 (fun e => by injection e with e; omega); have hB3 := hB2.grown hg3 (fun e => by injection e with e; omega); have htd3 := htd2.off hD2 HNO.out hg3; have hta3 := hta2.off hD2 HNO.out hg3; have hbe3 := hbe2.grown hg3 hbe2.size (fun k e => by cases e; exact hg1)) | (refine wpList_store_blk rfl 27 (.tmp 8) (.tmp 18) rfl (w1.heap.size + 1) rfl 27 t0 ac rfl hA3 sa EA.out one2 ?_; intro w4 hA4 hg4 hs4; clear hs4; have hD4 := hD3.grown hg4 (fun e => by injection e with e; omega); have hB4 := hB3.grown hg4 (fun e => by injection e with e; omega); have htd4 := htd3.off hA3 HNO.out hg4; have hta4 := hta3.off hA3 HNO.out hg4; have hbe4 := hbe3.grown hg4 hbe3.size (fun k e => by cases e; omega)))
  clear hD3 hA3 hB3 htd3 hta3 hbe3 hg3 hD2 hA2 hB2 htd2 hta2 hbe2 hg4 one1 one2
  rename_i K hK
  simp only [Act.put]
  replace hbe4 := hbe4.drew
  replace htd4 : TabAt w4.drew dc dt dv := htd4
  replace hta4 : TabAt w4.drew ac aT av := hta4
  replace hB4 := hB4.drew
  replace hD4 := hD4.drew
  replace hA4 := hA4.drew
  refine wp_region_noPanic ?_
  refine wp_region_held (S := fun w => Blk w W.heap.size 33 cz ∧ Blk w w1.heap.size 27 dc ∧ Blk w (w1.heap.size + 1) 27 ac) (by kernel_rfl) ?_
  show wpAnyH _ _ _ _ _ _ _ _ w4.drew
  generalize w4.drew = w5 at *
  refine wpAnyH_take (i := 0) (oi := ⟨some 19, _, _, _, _, _⟩) (v := .agg cz) rfl (by kernel_rfl) (by kernel_rfl) (by kernel_rfl) (fun c a w h => h) (yieldsIf_load_blk (by rfl) 33 (.tmp 3) rfl W.heap.size rfl 33 cz _ (fun w h => h.1) Try.underlying33 rfl hz33) ⟨hB4, hD4, hA4⟩ ?_
  simp only [Act.put, List.setIfInBounds_toArray, List.set_cons_zero, List.set_cons_succ]
  refine wpAnyH_take (i := 1) (oi := ⟨some 20, _, _, _, _, _⟩) (v := .int .i64 last) rfl (by kernel_rfl) (by kernel_rfl) (by kernel_rfl) (fun c a w h => h) (Or.inl ⟨by rfl, fun w _ => rfl⟩) ⟨hB4, hD4, hA4⟩ ?_
  simp only [Act.put, List.setIfInBounds_toArray, List.set_cons_zero, List.set_cons_succ]
  refine wpAnyH_take (i := 2) (oi := ⟨some 21, _, _, _, _, _⟩) (v := .agg dc) rfl (by kernel_rfl) (by kernel_rfl) (by kernel_rfl) (fun c a w h => h) (yieldsIf_load_blk (by rfl) 27 (.tmp 7) rfl w1.heap.size rfl 27 dc _ (fun w h => h.2.1) Try.underlying27 rfl sd) ⟨hB4, hD4, hA4⟩ ?_
  simp only [Act.put, List.setIfInBounds_toArray, List.set_cons_zero, List.set_cons_succ]
  refine wpAnyH_take (i := 4) (oi := ⟨some 23, _, _, _, _, _⟩) (v := .agg ac) rfl (by kernel_rfl) (by kernel_rfl) (by kernel_rfl) (fun c a w h => h) (yieldsIf_load_blk (by rfl) 27 (.tmp 8) rfl (w1.heap.size + 1) rfl 27 ac _ (fun w h => h.2.2) Try.underlying27 rfl sa) ⟨hB4, hD4, hA4⟩ ?_
  simp only [Act.put, List.setIfInBounds_toArray, List.set_cons_zero, List.set_cons_succ]
  refine wpAnyH_ready (rs := [3]) (by kernel_rfl) (by simp) ?_
  refine AllReadyH.cons rfl (fun K' hK' => ?_) AllReadyH.nil
  go_simp
  refine (KD.out _ _ htd4).mono ?_
  rintro e w6 ⟨rfl, hb6⟩
  have hB6 := hB4.below hb6 hB4.lt
  have hD6 := hD4.below hb6 hD4.lt
  have hA6 := hA4.below hb6 hA4.lt
  have hta6 := hta4.below hb6
  have hbe6 := hbe4.trans (hb6.mono hbe4.size)
  refine hK'.out _ _ ⟨hB6, hD6, hA6⟩ (fun hS5 => ?_)
  clear hK' K' hS5 hb6 hB4 hD4 hA4 hta4 htd4 hbe4
  refine wpAnyH_ready (rs := [5]) (by kernel_rfl) (by simp) ?_
  refine AllReadyH.cons rfl (fun K' hK' => ?_) AllReadyH.nil
  go_simp
  refine (KA.out _ _ hta6).mono ?_
  rintro e w7 ⟨rfl, hb7⟩
  have hB7 := hB6.below hb7 hB6.lt
  have hD7 := hD6.below hb7 hD6.lt
  have hA7 := hA6.below hb7 hA6.lt
  have hbe7 := hbe6.trans (hb7.mono hbe6.size)
  refine hK'.out _ _ ⟨hB7, hD7, hA7⟩ (fun hS5 => ?_)
  clear hK' K' hS5 hb7 hB6 hD6 hA6 hta6 hbe6
  refine wpAnyH_ready (rs := [6]) (by kernel_rfl) (by simp) ?_
  refine AllReadyH.cons rfl (fun K' hK' => ?_) AllReadyH.nil
  go_simp
  refine (KG.out _).mono ?_
  rintro e w8 ⟨v9, rfl, hro, hb8⟩
  have hB8 := hB7.below hb8 hB7.lt
  have hD8 := hD7.below hb8 hD7.lt
  have hA8 := hA7.below hb8 hA7.lt
  have hbe8 := hbe7.trans (hb8.mono hbe7.size)
  refine hK'.out _ _ ⟨hB8, hD8, hA8⟩ (fun hS5 => ?_)
  clear hK' K' hS5 hb8 hB7 hD7 hA7
  refine wpAnyH_take (i := 7) (oi := ⟨some 9, _, _, _, _, _⟩) (v := v9) rfl (by kernel_rfl) (by kernel_rfl) (by kernel_rfl) (fun c a w h => h) (Or.inl ⟨by rfl, fun w _ => rfl⟩) ⟨hB8, hD8, hA8⟩ ?_
  refine wpAnyH_done (by kernel_rfl) ?_ _
  refine hK _ _ ?_
  clear hK K hB8 hD8 hA8
  simp only [Act.put, List.setIfInBounds_toArray, List.set_cons_zero, List.set_cons_succ]
  go_wp2_with fail
  obtain ⟨hs, hhl, hho, hhi⟩ := hro
  obtain ⟨A9, c9, rfl, hr9⟩ := own_form hho
  clear hho
  go_loopw [10, 11] (fun v10 v11 (w : World) => ∃ i : Nat, i ≤ G.length ∧ v11 = .int .i64 i ∧ w.ownsRow w8.heap.size 42 2 v10 (G.take i).flatten.length (rowCells (G.take i).flatten) ∧ Below w8.heap.size w8 w) (fun _ v11 _ => G.length - (intOf v11).toNat)
  case atStart => exact ⟨0, by omega, rfl, World.ownsRow_nil _ _ _ _, Below.refl _ _⟩
  case round =>
    obtain ⟨i, hi, rfl, hown, hb⟩ := hrel
    by_cases hlt : i < G.length
    · obtain ⟨r, hr⟩ : ∃ r, G[i]? = some r := ⟨_, List.getElem?_eq_getElem hlt⟩
      obtain ⟨ad, u, rfl, _, hu, hc⟩ := (hr9.below hb).at_ hlt
      have hin := own_below (hhi i u r hu hr) hb (Nat.le_refl _)
      obtain ⟨Ar, cr, rfl, hrr⟩ := own_form hin
      have htk : (G.take (i + 1)).flatten = (G.take i).flatten ++ r := by
        rw [List.take_add_one, hr, List.flatten_append]; simp
      have hle : (G.take i).flatten.length + r.length ≤ 1000 := by
        have h1 : (G.take (i + 1)).flatten.length ≤ F.length := by
          have e : F = (G.take (i + 1)).flatten ++ (G.drop (i + 1)).flatten := by rw [HF.out, ← List.flatten_append, List.take_append_drop]
          rw [e, List.length_append]; omega
        rw [htk, List.length_append] at h1
        omega
      obtain ⟨B0, hB0⟩ : ∃ x, x = (G.take i).flatten := ⟨_, rfl⟩
      rw [← hB0] at hown hle htk
      have HTK := Lib.hid htk
      clear hB0 hin hu hr htk
      go_wp2_with (refine append42r rfl (.tmp 32) (.tmp 36) rfl w8.heap.size u10 B0.length B0 rfl hown wr.heap.size Ar r.length cr r rfl hrr (by omega) hb.size ?_; intro v' w' hown3 hg3)
      have hb3 := below_own hown hg3 (Nat.le_refl _) hb.size
      go_roundw
      case rel => exact ⟨i + 1, by omega, by go_num, by rw [HTK.out, List.length_append]; exact hown3, hb.trans hb3⟩
      case measure => simp [intOf]; omega
    · obtain rfl : i = G.length := by omega
      rw [List.take_length, ← HF.out] at hown
      obtain ⟨A10, c10, rfl, hr10⟩ := own_form hown
      have hk17 := Lib.hid (KP.out A10 c10 F wr (by omega) HSANE.out hr10)
      have hbe9 := hbe8.trans (hb.mono hbe8.size)
      clear KP hhi hr9 hown
      go_wp2_with fail
      go_at_call 17
      refine hk17.out.mono ?_
      rintro e w9 ⟨v, rfl, hown9, hb9⟩
      go_wp2_with fail
      go_ret
      exact ⟨_, rfl, own_base hown9 hbe9.size, hbe9.trans (hb9.mono hbe9.size)⟩
end Go.Proofs.Ytbjcjddaaegheaa
