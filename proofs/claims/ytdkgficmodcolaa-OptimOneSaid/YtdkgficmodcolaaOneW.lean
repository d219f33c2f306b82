/- law11.OptimOne is true. -/
import Derived.Test.YtdkgficmodcolaaLaw3
import Derived.Deep.OwnRows
namespace Go.Proofs.Ytdkgficmodcolaa
open Go.RowKit

theorem made_ints (n : Nat) : madeCells #[.int .i64 0] n = intsC (List.replicate n 0) := by
  apply Array.ext
  · rw [size_madeCells, intsC_size, List.length_replicate]
  · intro i h1 h2
    simp [madeCells, intsC, Nat.mod_one]
theorem make_ints (n : Nat) (h : n ≤ 1000) (w : World) : (Instr.makeSlice 23 (.int .i64 (n : Int)) (.int .i64 (n : Int))).run Try.prog w = .ok (.slice (some ⟨w.heap.size, 0, none⟩) n n) (w.alloc (.cells (intsC (List.replicate n 0)) 3)) := by
  have := run_make_row' (P := Try.prog) 23 3 (.int .i64 0) 8 Try.underlying23 info3 rfl .i64 .i64 n (by omega) (by omega) w
  rwa [made_ints] at this
theorem list_blk {w : World} {g : Nat} {l : List Int} (hB : Blk w g 3 (intsC l)) (hw : WfInts l) (hl : l.length ≤ 1000) : ListAt w l (some ⟨g, 0, none⟩) l.length :=
  ⟨rfl, hw, ⟨by simp, fun _ => ⟨_, rfl, hB.lt, fun j u hu => by rw [Addr.add_mid, hB.cell, Nat.zero_add]; simpa [intsC] using hu⟩⟩, by omega⟩
/-- one value alone -/
def oneL (v n : Nat) : List Int := (List.replicate (v + 1) 0).set v ((n : Int) + 1)
theorem oneL_len (v n : Nat) : (oneL v n).length = v + 1 := by simp [oneL]
theorem oneL_at (v n i : Nat) : (oneL v n).getD i 0 = if i = v then (n : Int) + 1 else 0 := by
  unfold oneL
  rw [getD_set _ _ _ _ (by simp)]
  split
  · rfl
  · rw [List.getD_eq_getElem?_getD, List.getElem?_replicate]; split <;> rfl
theorem oneL_wf (v n : Nat) (h : n ≤ 65535) : WfInts (oneL v n) := fun x hx => by
  rcases List.mem_or_eq_of_mem_set hx with h1 | h1
  · rw [List.eq_of_mem_replicate h1]; decide
  · rw [h1]; omega
theorem oneL_weights (v n : Nat) (hv : v ≤ 255) (hn : n ≤ 65535) : (weightsS (oneL v n)).getD v 0 = (n : Int) + 1 ∧ ∀ i, i < 256 → i ≠ v → (weightsS (oneL v n)).getD i 0 = 0 := by
  refine ⟨?_, fun i hi hne => ?_⟩
  · rw [weightsS_at _ _ (by omega), oneL_at, if_pos rfl]; unfold clipW; omega
  · rw [weightsS_at _ _ hi, oneL_at, if_neg hne]; rfl
/-- fives, then noughts -/
def fives (i : Nat) : List Int := List.replicate i 5 ++ List.replicate (256 - i) 0
theorem fives_len {i : Nat} (h : i ≤ 256) : (fives i).length = 256 := by simp [fives]; omega
theorem fives_set {i : Nat} (h : i < 256) : (fives i).set i 5 = fives (i + 1) := by
  unfold fives
  rw [List.set_append_right _ _ (by simp), List.length_replicate, Nat.sub_self, show 256 - i = (256 - (i + 1)) + 1 by omega, List.replicate_succ, List.set_cons_zero, List.replicate_succ', List.append_assoc]; rfl
theorem fives_weights : ∀ i, i < 256 → (weightsS (fives 256)).getD i 0 = 5 := fun i hi => by
  rw [weightsS_at _ _ hi]
  have : (fives 256).getD i 0 = 5 := by
    unfold fives
    rw [List.getD_eq_getElem?_getD, List.getElem?_append_left (by rw [List.length_replicate]; exact hi), List.getElem?_replicate, if_pos hi]; rfl
  rw [this]; rfl
theorem fives_wf (i : Nat) : WfInts (fives i) := fun x hx => by
  rcases List.mem_append.1 hx with h | h <;> rw [List.eq_of_mem_replicate h] <;> decide
theorem list_nil (w : World) : ListAt w [] none 0 := ⟨rfl, (fun x hx => by cases hx), Reads.none_, by decide⟩
theorem nil_weights : ∀ i, i < 256 → (weightsS []).getD i 0 = 0 := fun i hi => by rw [weightsS_at _ _ hi]; rfl
theorem run_field30 (cells : Array Value) (v : Value) (h : cells[16]? = some v) (W : World) : (Instr.field 30 (.agg cells) 1).run Try.prog W = .ok v W := by
  have ha : (isAgg 22).run Try.prog W = .ok false W := by simp [isAgg, run_underlying Try.underlying22]
  simp [Instr.field, run_underlying Try.underlying30, part, asAgg, ha, h, go_sem]
set_option maxRecDepth 100000 in
set_option maxHeartbeats 2000000 in
theorem one_walk (v n : Nat) (W : World) (hv : v ≤ 255) (hn : n ≤ 65535) : Calls Try.prog 6 #[.int .u8 v, .int .u16 n] W fun e w' => e = .returned (.bool true) ∧ Below W.heap.size W w' := by
  have hz30 := zero30
  obtain ⟨z30, hz30'⟩ : ∃ z, z = tabCells (List.replicate 16 0) (.slice none 0 0) := ⟨_, rfl⟩
  rw [← hz30'] at hz30
  have HZ30 := Lib.hid hz30'
  have hz38 : ∀ w, (zeroValue 38).run Try.prog w = .ok (.agg (codeC fun _ => (0, 0))) w := fun w => by rw [codeC_zero]; exact zero38 w
  obtain ⟨z38, hz38'⟩ : ∃ z, z = codeC (fun _ => (0, 0)) := ⟨_, rfl⟩
  rw [← hz38'] at hz38
  have hos38 : ∀ f, z38.size = (codeC f).size := fun f => by rw [hz38', codeC_size, codeC_size]
  have HOS38 := Lib.hid hos38
  have hmk1 := make_ints (v + 1) (by omega)
  simp only [Int.natCast_add, Int.natCast_one] at hmk1
  have hB0 := Blk.new W 3 (intsC (List.replicate (v + 1) 0))
  have f0 := hB0.frozen v
  have c0 : (W.alloc (.cells (intsC (List.replicate (v + 1) 0)) 3)).cell? ⟨W.heap.size, v, none⟩ = some (.int .i64 0) := by
    rw [hB0.cell, intsC_at _ v (by simp), List.getD_eq_getElem?_getD, List.getElem?_replicate, if_pos (by omega)]; rfl
  have hB1 := Blk.new W 3 (intsC (oneL v n))
  have hb1 : Below W.heap.size W (W.alloc (.cells (intsC (oneL v n)) 3)) := (Below.refl _ _).alloc (Nat.le_refl _) _
  have hla := list_blk hB1 (oneL_wf v n hn) (by rw [oneL_len]; omega)
  rw [oneL_len] at hla
  have hset : (intsC (List.replicate (v + 1) 0)).setIfInBounds v (.int .i64 ((n : Int) + 1)) = intsC (oneL v n) := intsC_set _ _ _
  obtain ⟨m, hm⟩ : ∃ m, m = v + 1 := ⟨_, rfl⟩
  have hmi : ((v : Int) + 1) = (m : Int) := by omega
  have hvm : v < m := by omega
  rw [hmi, ← hm] at hmk1
  rw [← hm] at f0 c0 hla hset
  have HM := Lib.hid hm
  have HLA := Lib.hid hla
  have HB1 := Lib.hid hb1
  clear hz30' hz38' hos38 hm hB0 hB1 hb1 hla
  have hmk2 : ∀ w, (Instr.makeSlice 23 (.int .i64 256) (.int .i64 256)).run Try.prog w = .ok (.slice (some ⟨w.heap.size, 0, none⟩) 256 256) (w.alloc (.cells (intsC (fives 0)) 3)) := make_ints 256 (by decide)
  have hnn : 0 ≤ (n : Int) + 1 ∧ (n : Int) + 1 ≤ 65536 := by omega
  go_enter Try.func6, Try.ntmps6
  go_wp2_with fail
  go_at_call 11
  refine (best_walk (some ⟨W.heap.size, 0, none⟩) m m (oneL v n) _ HLA.out).mono ?_
  rintro e w2 ⟨cn, ys, A2, c2, rfl, ht, hb2⟩
  obtain ⟨R, hok⟩ := ht.ex
  obtain ⟨wv, wo⟩ := oneL_weights v n hv hn
  obtain ⟨q1, q2, q3⟩ := one_tab hok (fun i => (weightsS_bd _ i).1) (v := v) (x := (n : Int) + 1) (by omega) (by omega) wv wo
  subst q2
  obtain ⟨ad, u0, hA, _, hx0, hc0⟩ := ht.rd.at_ (k := 0) (by simp)
  subst hA
  have hu0 : u0 = .int .u8 v := by simpa [bytesV, valsI] using hx0.symm
  subst hu0
  have hce := cells_of hok.len (some ad) [v].length c2
  have hla2 := HLA.out.below hb2
  have hbe2 := HB1.out.trans (hb2.mono HB1.out.size)
  have KCS := Lib.hid (fun w (h : TabAtW w (weightsS (oneL v n)) cn [v] (some ad)) (h2 : ListAt w (oneL v n) (some ⟨W.heap.size, 0, none⟩) m) => cost_walk _ cn [v] (some ad) c2 (some ⟨W.heap.size, 0, none⟩) m m (oneL v n) w h h2)
  obtain ⟨cells, hcells⟩ : ∃ cells, cells = tabCells (natsI cn) (.slice (some ad) [v].length c2) := ⟨_, rfl⟩
  have k0 : cells[0]? = some (.int .i64 1) := by rw [hcells, tabCells_at _ _ 0 (by rw [natsI_len, hok.len]; omega), natsI_at, q1]; rfl
  have k16 : cells[16]? = some (.slice (some ad) 1 c2) := by rw [hcells, tabCells_last _ _ (by rw [natsI_len]; exact hok.len)]; rfl
  rw [← hcells] at hce KCS ⊢
  have hs30 := hce.sz
  have HO30 := Lib.hid hce.one
  have HA30 := Lib.hid hce.as0
  rw [← HZ30.out] at HA30
  have HT := Lib.hid ht
  have HLA2 := Lib.hid hla2
  have HBE2 := Lib.hid hbe2
  have HQ3 := Lib.hid q3
  have HK0 := Lib.hid k0
  have HK16 := Lib.hid k16
  have hb2' : Below w2.heap.size w2 (w2.alloc (.cells z30 30)) := (Below.refl _ _).alloc (Nat.le_refl _) _
  have hB2 := Blk.new w2 30 z30
  clear hok hce hcells ht hla2 hbe2 hb2 HLA HB1 q1 q3 wv wo k0 k16 hx0 hc0 c0 f0 hset hmk1
  go_wp2_with (first
    | (refine wpList_store_blk rfl 30 (.tmp 6) (.tmp 22) rfl w2.heap.size rfl 30 _ _ rfl hB2 hs30 HA30.out HO30.out ?_
       intro w5 hR5 hg5 hs5
       have hb5 := hb2'.grown hg5 hb2'.size (fun k e => by injection e with e; omega)
       clear hs5 hg5))
  have hbe5 := HBE2.out.trans (hb5.mono HBE2.out.size)
  have ht5 := HT.out.below hb5
  have hla5 := HLA2.out.below hb5
  have hB7 := Blk.new w5 3 (intsC (fives 0))
  have hb7 : Below w5.heap.size w5 (w5.alloc (.cells (intsC (fives 0)) 3)) := (Below.refl _ _).alloc (Nat.le_refl _) _
  have HR5 := Lib.hid hR5
  have HBE5 := Lib.hid hbe5
  have HT5 := Lib.hid ht5
  have HLA5 := Lib.hid hla5
  clear hb5 hbe5 ht5 hla5 hR5 HBE2 HT HLA2 hB2 hb2' hmk2
  generalize w2.heap.size = gt at *
  clear w2
  generalize w5.alloc (.cells (intsC (fives 0)) 3) = w6 at *
  obtain ⟨g7, hg7⟩ : ∃ g7, g7 = w5.heap.size := ⟨_, rfl⟩
  rw [← hg7] at hB7 hb7 ⊢
  have HG7 := Lib.hid hg7
  clear hg7
  go_loopw [8] (fun v8 (w : World) => ∃ i : Nat, i ≤ 256 ∧ v8 = .int .i64 i ∧ Blk w g7 3 (intsC (fives i)) ∧ Below g7 w5 w) (fun v8 _ => 256 - (intOf v8).toNat)
  case atStart => exact ⟨0, by omega, rfl, hB7, hb7⟩
  case round =>
    clear hB7 hb7
    obtain ⟨i, hi, rfl, hBf, hbw⟩ := hrel
    by_cases hlt : i < 256
    · have c1 : wr.cell? ⟨g7, i, none⟩ = some (.int .i64 ((fives i).getD i 0)) := by rw [hBf.cell]; exact intsC_at _ i (by rw [fives_len hi]; exact hlt)
      have f1 := hBf.frozen i
      have hset := hBf.setI i 5
      rw [fives_set hlt] at hset
      have hbw2 := hbw.grown (grown_setCell wr ⟨g7, i, none⟩ (.int .i64 5)) (by rw [HG7.out]; exact hbw.size) (fun k e => by injection e with e; exact Nat.le_of_eq e)
      generalize (fives i).getD i 0 = y at *
      have HSET := Lib.hid hset
      clear hBf hset hbw
      go_wp2_with fail
      go_roundw
      case rel => exact ⟨i + 1, by omega, by go_num, HSET.out, hbw2⟩
      case measure => simp [intOf]; omega
    · obtain rfl : i = 256 := by omega
      have hl7 := list_blk hBf (fives_wf 256) (by rw [fives_len (Nat.le_refl _)]; omega)
      rw [fives_len (Nat.le_refl _)] at hl7
      have HL7 := Lib.hid hl7
      have hgz : g7 ≤ w5.heap.size := Nat.le_of_eq HG7.out
      clear hBf hl7 hlt hi
      go_wp2_with fail
      go_at_call 11
      refine (best_walk (some ⟨g7, 0, none⟩) 256 256 (fives 256) _ HL7.out).mono ?_
      rintro e w8 ⟨cn2, ys2, A3, c3, rfl, ht2, hb8⟩
      have hbw8 := hbw.trans (hb8.mono (by rw [HG7.out]; exact hbw.size))
      obtain ⟨R2, hok2⟩ := ht2.ex
      have hall := all_tab hok2 (x := 5) (by decide) fives_weights
      have KCO := Lib.hid (codes_walk _ cn2 ys2 A3 c3 w8 ht2)
      obtain ⟨f, hf⟩ : ∃ f, f = codesF (natsI cn2) (valsI ys2) := ⟨_, rfl⟩
      rw [← hf] at KCO
      have hallf : ∀ i, i < 256 → (f i).1 = 8 ∨ (f i).1 = 9 := fun i hi => by rw [hf]; exact hall i hi
      have HALL := Lib.hid hallf
      have hs38 := size38 f
      have HO38 := Lib.hid (codeC_one f)
      clear hf hall hallf hok2 ht2 HL7 hbw hb8
      go_wp2_with (first
        | (go_at_call 14
           refine KCO.out.mono ?_
           rintro e w9 ⟨rfl, hb9⟩
           have hbw9 := hbw8.trans (hb9.mono (by rw [HG7.out]; exact hbw8.size))
           have hB9 := Blk.new w9 38 z38
           have hb9' : Below w9.heap.size w9 (w9.alloc (.cells z38 38)) := (Below.refl _ _).alloc (Nat.le_refl _) _
           clear hb9)
        | (refine wpList_store_blk rfl 38 (.tmp 9) (.tmp 33) rfl w9.heap.size rfl 38 _ _ rfl hB9 hs38 (HOS38.out _) HO38.out ?_
           intro w10 hR10 hg10 hs10
           have hb10 := hb9'.grown hg10 hb9'.size (fun k e => by injection e with e; omega)
           clear hs10))
      have hbw10 := hbw9.trans (hb10.mono (by rw [HG7.out]; exact hbw9.size))
      rw [HG7.out] at hbw10
      have HBW := Lib.hid hbw10
      have HRX := Lib.hid hR10
      clear hbw8 hbw9 hb10 hg10 hB9 hb9' hR10 hbw10 KCO hz38
      generalize w9.heap.size = gx at *
      clear w9 w8
      go_loopw [10] (fun v10 (w : World) => ∃ i : Nat, i ≤ 256 ∧ v10 = .int .i64 i ∧ w = w10) (fun v10 _ => 256 - (intOf v10).toNat)
      case atStart => exact ⟨0, by omega, rfl, rfl⟩
      case round =>
        obtain ⟨i, hi, rfl, rfl⟩ := hrel
        by_cases hlt : i < 256
        · have cN : wr.cell? ⟨gx, i * 2, none⟩ = some (.int .i64 (f i).1) := by rw [HRX.out.cell]; exact codeC_n f i hlt
          rcases HALL.out i hlt with e | e
          · rw [e] at cN
            clear e
            go_wp2_with fail
            go_roundw
            case rel => exact ⟨i + 1, by omega, by go_num, trivial⟩
            case measure => simp [intOf]; omega
          · rw [e] at cN
            clear e
            go_wp2_with fail
            go_roundw
            case rel => exact ⟨i + 1, by omega, by go_num, trivial⟩
            case measure => simp [intOf]; omega
        · obtain rfl : i = 256 := by omega
          clear hlt hi
          go_wp2_with (first
            | (go_at_call 9
               refine (known_any _).mono ?_
               rintro e w11 ⟨rfl, hb11⟩
               have hbq := HBW.out.trans (hb11.mono HBW.out.size)
               have hR11 := HR5.out.below hbq HR5.out.lt
               have ht11 := HT5.out.below hbq
               have hla11 := HLA5.out.below hbq
               have hbe11 := HBE5.out.trans (hbq.mono HBE5.out.size)
               have x0 : w11.cell? ⟨gt, 0, none⟩ = some (.int .i64 1) := (hR11.cell 0).trans HK0.out
               have x16 : w11.cell? ⟨gt, 16, none⟩ = some (.slice (some ad) 1 c2) := (hR11.cell 16).trans HK16.out
               have y0 : w11.cell? (ad.add 0) = some (.int .u8 v) := by
                 obtain ⟨ad', u', hA', _, hx', hc'⟩ := ht11.rd.at_ (k := 0) (by simp)
                 injection hA' with hA'
                 subst hA'
                 rw [hc', show u' = .int .u8 v by simpa [bytesV, valsI] using hx'.symm]
               have y1 : w11.cell? ad = some (.int .u8 v) := y0
               clear hb11 hbq)
            | (refine wpList_load_want rfl 30 (.tmp 6) rfl gt rfl 30 _ _ hR11 Try.underlying30 rfl hs30 ?_)
            | (go_at_call 12
               refine (KCS.out _ ht11 hla11).mono ?_
               rintro e w12 ⟨r, rfl, hr, hb12⟩
               obtain rfl := HQ3.out r hr
               have hbe12 := hbe11.trans (hb12.mono hbe11.size)
               clear hr hb12 hbe11 ht11 hla11)
            | (go_at_call 11
               refine (best_walk none 0 0 [] _ (list_nil _)).mono ?_
               rintro e w13 ⟨cn3, ys3, A4, c4, rfl, ht3, hb13⟩
               have hbe13 := hbe12.trans (hb13.mono hbe12.size)
               obtain ⟨R3, hok3⟩ := ht3.ex
               have hy3 := none_tab hok3 nil_weights
               subst hy3
               have k3 : (tabCells (natsI cn3) (.slice A4 0 c4))[16]? = some (.slice A4 0 c4) := by rw [tabCells_last _ _ (by rw [natsI_len]; exact hok3.len)]
               have hfd : ∀ W, (Instr.field 30 (.agg (tabCells (natsI cn3) (.slice A4 0 c4))) 1).run Try.prog W = .ok (.slice A4 0 c4) W := run_field30 _ _ k3
               clear hok3 ht3 hb13 hbe12 k3))
          go_ret
          exact ⟨rfl, hbe13⟩
theorem one_row (v n : Int) (W : World) (hv : (Lit.int .u8 v).wf = true) (hn : (Lit.int .u16 n).wf = true) : Calls Try.prog 6 #[.int .u8 v, .int .u16 n] W fun e w' => e = .returned (.bool true) ∧ Below W.heap.size W w' := by
  have := bounds_u8 hv
  have := bounds_u16 hn
  obtain ⟨v', rfl⟩ : ∃ k : Nat, v = k := ⟨v.toNat, by omega⟩
  obtain ⟨n', rfl⟩ : ∃ k : Nat, n = k := ⟨n.toNat, by omega⟩
  exact one_walk v' n' W (by omega) (by omega)
end Go.Proofs.Ytdkgficmodcolaa
