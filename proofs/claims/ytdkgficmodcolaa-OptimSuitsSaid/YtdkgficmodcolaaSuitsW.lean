/- law11.OptimSuits is true. -/
import Derived.Test.YtdkgficmodcolaaLaw3
namespace Go.Proofs.Ytdkgficmodcolaa
open Go.RowKit

set_option maxRecDepth 100000 in
set_option maxHeartbeats 2000000 in
theorem suits_walk (A : Option Addr) (cap len : Nat) (cs : List Int) (k : Nat) (W : World) (hcl : cs.length = len) (hcb : AreBytes cs) (hr : Reads W W.heap.size 1 A len (bytesV cs)) (hl : len ≤ 9223372036854775807) (hk : k ≤ 255) :
    Calls Try.prog 5 #[.slice A len cap, .int .u8 k] W fun e w' => e = .returned (.bool true) ∧ Below W.heap.size W w' := by
  have KO := Lib.hid (often_any A cap len cs k W hcl hcb hr hl hk)
  have hz30 := zero30
  obtain ⟨z30, hz30'⟩ : ∃ z, z = tabCells (List.replicate 16 0) (.slice none 0 0) := ⟨_, rfl⟩
  rw [← hz30'] at hz30
  have HZ30 := Lib.hid hz30'
  have hz38 : ∀ w, (zeroValue 38).run Try.prog w = .ok (.agg (codeC fun _ => (0, 0))) w := fun w => by rw [codeC_zero]; exact zero38 w
  obtain ⟨z38, hz38'⟩ : ∃ z, z = codeC (fun _ => (0, 0)) := ⟨_, rfl⟩
  rw [← hz38'] at hz38
  have hos38 : ∀ f, z38.size = (codeC f).size := fun f => by rw [hz38', codeC_size, codeC_size]
  have HOS38 := Lib.hid hos38
  clear hcl hcb hr hz30' hz38' hos38
  go_enter Try.func5, Try.ntmps5
  go_wp2_with fail
  go_at_call 7
  refine KO.out.mono ?_
  rintro e w1 ⟨v, l, rfl, hown, htm, hll, hb1⟩
  obtain ⟨A1, c1, rfl, hla⟩ := own_list hown htm hll
  have KB := Lib.hid (best_walk A1 c1 l.length l w1 hla)
  have HTM := Lib.hid htm
  obtain ⟨n, hn⟩ : ∃ n, n = l.length := ⟨_, rfl⟩
  rw [← hn] at KB hla hll ⊢
  have HLA := Lib.hid hla
  clear hown htm hla hn KO
  go_wp2_with fail
  go_at_call 11
  refine KB.out.mono ?_
  rintro e w2 ⟨cn, ys, A2, c2, rfl, ht, hb2⟩
  obtain ⟨R, hok⟩ := ht.ex
  have hce := cells_of hok.len A2 ys.length c2
  have KCH := Lib.hid (fun w (h : TabAtW w (weightsS l) cn ys A2) => check_walk (weightsS l) cn ys A2 c2 w h)
  have KCO := Lib.hid (fun w (h : TabAtW w (weightsS l) cn ys A2) => codes_walk (weightsS l) cn ys A2 c2 w h)
  have KCS := Lib.hid (fun w (h : TabAtW w (weightsS l) cn ys A2) (h2 : ListAt w l A1 n) => cost_walk (weightsS l) cn ys A2 c2 A1 n c1 l w h h2)
  obtain ⟨cells, hcells⟩ : ∃ cells, cells = tabCells (natsI cn) (.slice A2 ys.length c2) := ⟨_, rfl⟩
  rw [← hcells] at hce KCH KCO KCS ⊢
  obtain ⟨f, hf⟩ : ∃ f, f = codesF (natsI cn) (valsI ys) := ⟨_, rfl⟩
  rw [← hf] at KCO
  have hfN : ∀ i, i < 256 → ((f i).1 ≠ 0 ↔ 0 < l.getD i 0) := fun i hi => by
    rw [hf, ← (weights_at HTM.out hi).1, ← hok.ok.comes_iff hi]
    exact hok.has hi
  have hcnn : ∀ r, CostR (lenN cn ys) (weightsS l) r → 0 ≤ r := fun r h => (hok.cost_nn (fun i => (weightsS_bd l i).1) h).2
  have HFN := Lib.hid hfN
  have HFB : Hid (∀ i, (f i).1 ≤ 16) := Lib.hid (fun i => by rw [hf]; exact codesF_bd _ _ (by rw [natsI_len]; exact hok.len) i)
  have HCNN := Lib.hid hcnn
  have hs30 := hce.sz
  have HO30 := Lib.hid hce.one
  have HA30 := Lib.hid hce.as0
  rw [← HZ30.out] at HA30
  have hs38 := size38 f
  have HO38 := Lib.hid (codeC_one f)
  have hbe2 := hb1.trans (hb2.mono hb1.size)
  have hla2 := HLA.out.below hb2
  have hb2' : Below w2.heap.size w2 (w2.alloc (.cells z30 30)) := (Below.refl _ _).alloc (Nat.le_refl _) _
  have hB2 := Blk.new w2 30 z30
  have HT := Lib.hid ht
  have HLA2 := Lib.hid hla2
  clear hok hce hcells hf hfN hcnn ht hla2 hb1 hb2 KB HLA
  go_wp2_with (first
    | (refine wpList_store_blk rfl 30 (.tmp 6) (.tmp 14) rfl w2.heap.size rfl 30 _ _ rfl hB2 hs30 HA30.out HO30.out ?_
       intro w5 hR5 hg5 hs5
       have hb5 := hb2'.grown hg5 hb2'.size (fun k e => by injection e with e; omega)
       have hbe5 := hbe2.trans (hb5.mono hbe2.size)
       have ht5 := HT.out.below hb5
       have hla5 := HLA2.out.below hb5
       clear hs5 hg5 hb5)
    | (go_at_call 13
       refine (KCH.out _ ht5).mono ?_
       rintro e w6 ⟨rfl, hb6⟩
       have hR6 := hR5.below hb6 hR5.lt
       have hbe6 := hbe5.trans (hb6.mono hbe5.size)
       have ht6 := ht5.below hb6
       have hla6 := hla5.below hb6
       clear hb6 hbe5 ht5 hla5)
    | (go_at_call 14
       refine (KCO.out _ ht6).mono ?_
       rintro e w7 ⟨rfl, hb7⟩
       have hR7 := hR6.below hb7 hR6.lt
       have hbe7 := hbe6.trans (hb7.mono hbe6.size)
       have ht7 := ht6.below hb7
       have hla7 := hla6.below hb7
       have hB7 := Blk.new w7 38 z38
       have hb7' : Below w7.heap.size w7 (w7.alloc (.cells z38 38)) := (Below.refl _ _).alloc (Nat.le_refl _) _
       clear hb7 hbe6 ht6 hla6)
    | (refine wpList_store_blk rfl 38 (.tmp 7) (.tmp 19) rfl w7.heap.size rfl 38 _ _ rfl hB7 hs38 (HOS38.out _) HO38.out ?_
       intro w8 hR8 hg8 hs8
       have hb8 := hb7'.grown hg8 hb7'.size (fun k e => by injection e with e; omega))
    | (refine wpList_load_blk rfl 30 (.tmp 6) rfl w2.heap.size rfl 30 _ _ hR5 Try.underlying30 rfl hs30 ?_)
    | (refine wpList_load_blk rfl 30 (.tmp 6) rfl w2.heap.size rfl 30 _ _ hR6 Try.underlying30 rfl hs30 ?_))
  have hRt := hR7.below hb8 hR7.lt
  have hbe8 := hbe7.trans (hb8.mono hbe7.size)
  have ht8 := ht7.below hb8
  have hla8 := hla7.below hb8
  clear hs8 hg8 hb8 hbe7 ht7 hla7 hB7 hb7' hR5 hR6 hR7 hB2 hb2' hbe2 HT HLA2 KCH KCO
  generalize w7.heap.size = gx at *
  generalize w2.heap.size = gt at *
  have HT8 := Lib.hid ht8
  have HLA8 := Lib.hid hla8
  have HRX := Lib.hid hR8
  clear ht8 hla8 hR8 w2 w7 w1
  go_loopw [8, 9] (fun v8 _ (w : World) => ∃ i : Nat, i ≤ 256 ∧ v8 = .int .i64 i ∧ w = w8) (fun v8 _ _ => 256 - (intOf v8).toNat)
  case atStart => exact ⟨0, by omega, rfl, rfl⟩
  case round =>
    obtain ⟨i, hi, rfl, rfl⟩ := hrel
    by_cases hlt : i < 256
    · have cN : wr.cell? ⟨gx, i * 2, none⟩ = some (.int .i64 (f i).1) := by rw [HRX.out.cell]; exact codeC_n f i hlt
      have hN := HFN.out i hlt
      have hm16 := HFB.out i
      generalize (f i).1 = m at *
      have HN := Lib.hid hN
      clear hN hRt hbe8
      by_cases hin : i < n
      · obtain ⟨ad, u, hA, _, hx, hc⟩ := HLA8.out.rd.at_ (k := i) hin
        subst hA
        obtain ⟨x, hx1, rfl⟩ := intV_at (l := l) hx
        have hxv : l.getD i 0 = x := by rw [List.getD_eq_getElem?_getD, hx1]; rfl
        have hxb := HTM.out x (List.mem_of_getElem? hx1)
        have HXV := Lib.hid hxv
        clear hx hx1 hxv
        by_cases hpos : 0 < x
        · have hm1 : 0 < (m : Int) := by have := HN.out.2 (by rw [HXV.out]; exact hpos); omega
          have hmd : decide (0 < m) = true := by simp; omega
          go_wp2_with fail
          go_roundw
          case rel => exact ⟨i + 1, by omega, by go_num, trivial⟩
          case measure => simp [intOf]; omega
        · have hm0 : m = 0 := Classical.byContradiction fun h => hpos (by rw [← HXV.out]; exact HN.out.1 h)
          subst hm0
          go_wp2_with fail
          go_roundw
          case rel => exact ⟨i + 1, by omega, by go_num, trivial⟩
          case measure => simp [intOf]; omega
      · have hm0 : m = 0 := Classical.byContradiction fun h => by
          have := HN.out.1 h
          rw [List.getD_eq_getElem?_getD, List.getElem?_eq_none (by rw [HLA8.out.hl]; omega)] at this
          simp at this
        subst hm0
        go_wp2_with fail
        go_roundw
        case rel => exact ⟨i + 1, by omega, by go_num, trivial⟩
        case measure => simp [intOf]; omega
    · obtain rfl : i = 256 := by omega
      go_wp2_with (first
        | (go_at_call 9
           refine (known_any _).mono ?_
           rintro e w9 ⟨rfl, hb9⟩
           have hR9 := hRt.below hb9 hRt.lt
           have ht9 := HT8.out.below hb9
           have hla9 := HLA8.out.below hb9
           have hbe9 := hbe8.trans (hb9.mono hbe8.size)
           clear hb9 hRt hbe8)
        | (refine wpList_load_want rfl 30 (.tmp 6) rfl gt rfl 30 _ _ hR9 Try.underlying30 rfl hs30 ?_)
        | (go_at_call 12
           refine (KCS.out _ ht9 hla9).mono ?_
           rintro e w10 ⟨r, rfl, hr, hb10⟩
           have hr0 := HCNN.out r hr
           have hbe10 := hbe9.trans (hb10.mono hbe9.size)
           clear hr hb10 hbe9 ht9 hla9 hR9))
      go_ret
      exact ⟨rfl, hbe10⟩
theorem suits_row (A : Option Addr) (len cap : Nat) (zs : List Int) (k : Int) (W : World) (h : IsRow .u8 W A len cap zs) (hk : (Lit.int .u8 k).wf = true) :
    Calls Try.prog 5 #[.slice A len cap, .int .u8 k] W fun e w' => e = .returned (.bool true) ∧ Below W.heap.size W w' := by
  obtain ⟨bs, h1, h2, h3, h4, h5⟩ := row_reads h
  have := bounds_u8 hk
  obtain ⟨kn, rfl⟩ : ∃ n : Nat, k = n := ⟨k.toNat, by omega⟩
  exact suits_walk A cap len bs kn W h1 h4 h5 (by unfold maxLen at h3; omega) (by omega)
end Go.Proofs.Ytdkgficmodcolaa
