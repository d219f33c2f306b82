/- huff.Check: what it says of any table. -/
import Derived.Test.YtdkgficmodcolaaLaidMath
import Derived.Deep.WholeRow
namespace Go.Proofs.Ytdkgficmodcolaa
open Go.RowKit Go.Shelf
attribute [local go_sem] Oper.semAt_some

theorem laid_in (F : Fence) (n : Nat) (hf38 : F.fn 21) (hro : F.round = none) (cells : Array Value) (w : World) :
    CallsIn F n Try.prog 21 #[.agg cells] w fun e w' => e = .returned (.func (.func 28) #[] #[.pointer (some ⟨w.heap.size, 0, none⟩)]) ∧ w' = w.alloc (.cells cells 30) := by
  refine callsIn_of_wp Try.func21 rfl hf38 ?_ hro
  simp only [Try.ntmps21, List.size_toArray, List.length_cons, List.length_nil, Nat.reduceAdd, Nat.reduceSub, Array.replicate_succ, Array.replicate_zero, List.push_toArray, List.append_toArray, List.nil_append, List.cons_append]
  gi_wp2
  go_ret
  exact ⟨rfl, rfl⟩
abbrev Laid (cn : List Nat) : Type := { e : Nat × Nat × Nat // e ∈ laidC cn 0 0 0 }
def raw {cn : List Nat} (l : List (Laid cn)) : List (Nat × Nat × Nat) := l.map (·.1)
theorem raw_snoc {cn : List Nat} (l : List (Laid cn)) (x : Laid cn) : raw (l ++ [x]) = raw l ++ [x.1] := by simp [raw]
theorem laid_stops (F : Fence) (n : Nat) (hf46 : F.fn 28) (hro : F.round = none) (hn : 1 ≤ n) (n₀ g : Nat) (cn : List Nat) (v : Value) (hcn : cn.length = 16) (hbd : ∀ x ∈ cn, x ≤ 255) (w : World) (hB : Blk w g 30 (tabCells (natsI cn) v)) :
    SeqStopsK F n Try.prog 28 #[.pointer (some ⟨g, 0, none⟩)] (fun x : Laid cn => encL x.1) (Below n₀) (fun ys => raw ys = laidC cn 0 0 0) (fun pre => raw pre <+: laidC cn 0 0 0) (laidC cn 0 0 0).length w :=
  fun l J Jx W hW _ _ hY h0 => by
    refine (laid1_in F n hf46 hro hn l g cn v hcn hbd (fun pre W => ∃ ps, raw ps = pre ∧ J ps W) (fun pre W => ∃ ps, raw ps = pre ∧ Jx ps W) ?_ W (hB.below hW hB.lt) ⟨[], rfl, h0⟩).mono ?_
    · rintro pre x W1 ⟨ps, rfl, hJ⟩ hx hlt
      refine (hY ps ⟨x, hx⟩ W1 hJ (by simpa [raw] using hlt)).imp fun _ h => ?_
      obtain ⟨tmps, assign, body, hy, hr⟩ := h
      refine ⟨tmps, assign, body, hy, hr.mono (fun e W' h => ?_)⟩
      rcases h with ⟨h1, h2, _⟩ | ⟨h1, h2⟩
      · exact .inl ⟨h1, _, raw_snoc ps ⟨x, hx⟩, h2⟩
      · exact .inr ⟨h1, _, raw_snoc ps ⟨x, hx⟩, h2⟩
    · rintro e W' ⟨h1, (⟨ys, rfl, ps, h2, h3⟩ | ⟨pre, h2, ps, rfl, h3⟩)⟩
      · exact ⟨h1, .inl ⟨ps, h2, h3⟩⟩
      · exact ⟨h1, .inr ⟨ps, h2, h3⟩⟩
theorem kb_below {n₀ : Nat} {w : World} (hn : n₀ ≤ w.heap.size) (W : World) (l : Nat) (o o' : Obj) (hl : w.heap.size ≤ l) (h : W.heap[l]? = some o) (hc : o.isCells = false) (hw : o.isWalk = false) : Below n₀ W (W.putObj l o') :=
  belowK_b hn W l o o' hl h hc hw
theorem blk_own {β : Type} (B : Nat) (t : TypeId) (f : β → Array Value) : Own (fun s W => Blk W B t (f s)) := fun s X Y row hs hg hrow =>
  hs.grown hg (fun e' => by obtain ⟨o, ho, hc⟩ := hrow B e'.symm; rw [show X.heap[B]? = _ from hs] at ho; cases ho; cases hc)

/-- the marks of the values that came -/
def seenC (l : List Int) : Array Value := ((List.range 256).map fun v : Nat => Value.bool (decide ((v : Int) ∈ l))).toArray
theorem seenC_size (l : List Int) : (seenC l).size = 256 := by simp [seenC]
theorem seenC_at (l : List Int) (v : Nat) (h : v < 256) : (seenC l)[v]? = some (.bool (decide ((v : Int) ∈ l))) := by
  simp only [seenC, List.getElem?_toArray, List.getElem?_map, List.getElem?_range h, Option.map_some]
theorem seenC_nil : seenC [] = Array.replicate 256 (.bool false) := by
  apply Array.ext_getElem?
  intro i
  rw [Array.getElem?_replicate]
  by_cases hi : i < 256
  · rw [seenC_at _ i hi, if_pos hi]; simp
  · rw [Array.getElem?_eq_none (by rw [seenC_size]; omega), if_neg hi]
theorem seenC_snoc (l : List Int) (v : Nat) (h : v < 256) : (seenC l).setIfInBounds v (.bool true) = seenC (l ++ [(v : Int)]) := by
  apply Array.ext_getElem?
  intro i
  rw [Array.getElem?_setIfInBounds]
  by_cases hi : i < 256
  · rw [seenC_at (l ++ [(v : Int)]) i hi, seenC_at l i hi]
    by_cases hv : v = i
    · subst hv; rw [if_pos rfl, if_pos (by rw [seenC_size]; exact h)]; simp
    · rw [if_neg hv]
      have : ¬ (i : Int) = (v : Int) := by omega
      simp [this]
  · rw [Array.getElem?_eq_none (by rw [seenC_size]; omega)]
    by_cases hv : v = i
    · omega
    · rw [if_neg hv, Array.getElem?_eq_none (by rw [seenC_size]; omega)]
theorem zero52 : ∀ w, (zeroValue 52).run Try.prog w = .ok (.agg (Array.replicate 256 (.bool false))) w :=
  (zero_of_info (P := Try.prog) (t := 52) (n := 256) (by kernel_rfl)).1

def valsOf (vs : List Int) (pre : List (Nat × Nat × Nat)) : List Int := pre.map fun e => vs.getD e.1 0

theorem valsOf_snoc (vs : List Int) (l : List (Nat × Nat × Nat)) (x : Nat × Nat × Nat) : valsOf vs (l ++ [x]) = valsOf vs l ++ [vs.getD x.1 0] := by simp [valsOf]
theorem valsOf_all (cn : List Nat) (vs : List Int) (h : cn.sum = vs.length) : valsOf vs (laidC cn 0 0 0) = vs := by
  have : valsOf vs (laidC cn 0 0 0) = ((laidC cn 0 0 0).map (·.1)).map (fun i => vs.getD i 0) := by simp [valsOf]
  rw [this, laidC_at, h]
  apply List.ext_getElem
  · simp
  · intro i h1 h2
    simp [List.getD_eq_getElem?_getD, h2]
theorem valsOf_prefix {vs : List Int} {l l' : List (Nat × Nat × Nat)} (h : l <+: l') : valsOf vs l <+: valsOf vs l' := h.map _
theorem natsI_sum (cn : List Nat) : (natsI cn).sum = (cn.sum : Int) := by
  induction cn with
  | nil => rfl
  | cons n t ih => rw [natsI_cons, List.sum_cons, List.sum_cons, ih]; simp

attribute [local irreducible] wpStill
set_option maxRecDepth 100000 in
set_option maxHeartbeats 1000000 in
theorem hcheck_in (n : Nat) (hn : 3 ≤ n) (ct : List Int) (vs : List Int) (A : Option Addr) (len c : Nat) (W : World) (hct : ct.length = 16) (hw : ∀ x ∈ ct, (Lit.int .i64 x).wf = true) (hlen : vs.length = len) (hvb : AreBytes vs) (hr : Reads W W.heap.size 1 A len (bytesV vs)) (hl : len ≤ 9223372036854775807) :
    CallsIn Fence.wide n Try.prog 13 #[.agg (tabCells ct (.slice A len c))] W fun e w' => e = .returned (.bool (checkS ct vs)) ∧ Below W.heap.size W w' := by
  have h1 : 1 ≤ n := by omega
  have hro : Fence.wide.round = none := rfl
  have hsz := tabCells_size ct (.slice A len c) hct
  have hB1 : Blk ((W.alloc (.cells (tabCells ct (.slice A len c)) 30)).alloc (.cells #[.bool false] 4)) W.heap.size 30 (tabCells ct (.slice A len c)) := (Blk.new W 30 _).alloc _
  have hbe1 : Below W.heap.size W ((W.alloc (.cells (tabCells ct (.slice A len c)) 30)).alloc (.cells #[.bool false] 4)) := ((Below.refl _ _).alloc (Nat.le_refl _) _).alloc (by simp) _
  have hrg : ((W.alloc (.cells (tabCells ct (.slice A len c)) 30)).alloc (.cells #[.bool false] 4)).rangeAt W.heap.size 0 (ct.map (Value.int .i64)) := hB1.range 0 _ fun j u hu => by
    rw [List.getElem?_map] at hu
    obtain ⟨x, hx, rfl⟩ := Option.map_eq_some_iff.1 hu
    have hj := (List.getElem?_eq_some_iff.1 hx).1
    rw [Nat.zero_add, tabCells_at _ _ j hj, List.getD_eq_getElem?_getD, hx]; rfl
  have hi16 : (Try.prog.info? 28).map (·.size) = some (ct.map (Value.int .i64)).length := by
    rw [List.length_map, hct]; kernel_rfl
  have hla' := tabCells_last ct (.slice A len c) hct
  obtain ⟨cells, hcells⟩ : ∃ cells, cells = tabCells ct (.slice A len c) := ⟨_, rfl⟩
  rw [← hcells] at hsz hB1 hbe1 hrg hla' ⊢
  have hbx : Boxed ((W.alloc (.cells cells 30)).alloc (.cells #[.bool false] 4)) (W.heap.size + 1) 4 (.bool false) := by
    have := Boxed.new (W.alloc (.cells cells 30)) 4 (.bool false)
    rwa [World.size_alloc] at this
  have hla : cells[16]'(by omega) = .slice A len c := by rw [Array.getElem?_eq_getElem (by omega)] at hla'; exact Option.some.inj hla'
  obtain ⟨arr, harr⟩ : ∃ arr, arr = (ct.map (Value.int .i64)).toArray := ⟨_, rfl⟩
  have hat : ∀ i, i < 16 → arr[i]? = some (.int .i64 (ct.getD i 0)) := fun i hi => by
    rw [harr, List.getElem?_toArray, List.getElem?_map, List.getElem?_eq_getElem (by omega), List.getD_eq_getElem?_getD, List.getElem?_eq_getElem (by omega)]; rfl
  have hwf : ∀ i, i < 16 → (Lit.int .i64 (ct.getD i 0)).wf = true := fun i hi => by
    rw [List.getD_eq_getElem?_getD, List.getElem?_eq_getElem (by omega : i < ct.length)]
    exact hw _ (List.getElem_mem _)
  have htk : ∀ i, i < 16 → ct.take (i + 1) = ct.take i ++ [ct.getD i 0] := fun i hi => by
    rw [List.take_succ_eq_append_getElem (by omega), List.getD_eq_getElem?_getD, List.getElem?_eq_getElem (by omega)]; rfl
  have hmem : ∀ i, i < 16 → ct.getD i 0 ∈ ct := fun i hi => by
    rw [List.getD_eq_getElem?_getD, List.getElem?_eq_getElem (by omega : i < ct.length)]
    exact List.getElem_mem _
  have hall16 : ct.take 16 = ct := List.take_of_length_le (by omega)
  have HA := Lib.hid harr
  have HAT := Lib.hid hat
  have HW := Lib.hid hwf
  have HTK := Lib.hid htk
  have HMEM := Lib.hid hmem
  have HALL := Lib.hid hall16
  have HCELLS := Lib.hid hcells
  clear harr hat hwf htk hmem hall16 hw hcells
  refine callsIn_of_wp_marks Try.func13 rfl trivial ?_ hro
  simp only [Try.ntmps13, List.size_toArray, List.length_cons, List.length_nil, Nat.reduceAdd, Nat.reduceSub, Array.replicate_succ, Array.replicate_zero, List.push_toArray, List.append_toArray, List.nil_append, List.cons_append]
  gi_wp2_with (refine wpListIn_load_mid rfl 28 (.tmp 10) rfl W.heap.size 0 rfl _ _ hrg Try.underlying28 rfl hi16 ?_; rw [← HA.out])
  gi_loop [3, 12] (fun s k => ∃ (i : Nat) (s' : Int), i ≤ 16 ∧ k = .int .i64 i ∧ s = .int .i64 s' ∧ 0 ≤ s' ∧ s' ≤ 255 * i ∧ s' = (ct.take i).sum ∧ ∀ x ∈ ct.take i, 0 ≤ x ∧ x ≤ 255) (fun _ k => 16 - (intOf k).toNat)
  case atStart => exact ⟨0, 0, by omega, rfl, rfl, by omega, by omega, rfl, fun x hx => by cases hx⟩
  case round =>
    obtain ⟨i, s, hi, rfl, rfl, s0, s1, hs, hgood⟩ := hrel
    have HS := Lib.hid hs
    have HG := Lib.hid hgood
    clear hs hgood
    by_cases hlt : i < 16
    · have hx := HAT.out i hlt
      have hwf := HW.out i hlt
      have htk := HTK.out i hlt
      have hmm := HMEM.out i hlt
      obtain ⟨x, hxd⟩ : ∃ x, x = ct.getD i 0 := ⟨_, rfl⟩
      rw [← hxd] at hx hwf htk hmm
      clear hxd
      have hix := run_index_arr (P := Try.prog) 28 3 16 arr .i64 i _ Try.underlying28 hlt (by kernel_rfl) (k' := .i64) (by kernel_rfl) hx
      obtain ⟨x0, x1⟩ : -9223372036854775808 ≤ x ∧ x ≤ 9223372036854775807 := by
        simp [Lit.wf, IntKind.min, IntKind.max, IntKind.signed, IntKind.bits] at hwf; omega
      have HT := Lib.hid htk
      have HM := Lib.hid hmm
      clear htk hwf hx hmm
      by_cases hneg : x < 0
      · have hC : checkS ct vs = false := checkS_bad ct vs (fun h => by have := h x HM.out; omega)
        gi_wp2
        exact ⟨_, results_cell_one rfl _ _ ⟨W.heap.size + 1, 0, none⟩ (.bool false) _ rfl hbx.cell Try.underlying4 rfl, by first | rw [hC] | rfl, hbe1⟩
      · by_cases hbig : 255 < x
        · have hC : checkS ct vs = false := checkS_bad ct vs (fun h => by have := h x HM.out; omega)
          gi_wp2
          exact ⟨_, results_cell_one rfl _ _ ⟨W.heap.size + 1, 0, none⟩ (.bool false) _ rfl hbx.cell Try.underlying4 rfl, by first | rw [hC] | rfl, hbe1⟩
        · gi_wp2
          go_round
          case rel =>
            refine ⟨i + 1, s + x, by omega, by go_num, rfl, by omega, by omega, ?_, ?_⟩
            · rw [HT.out, List.sum_append, ← HS.out]; simp
            · intro y hy
              rw [HT.out] at hy
              rcases List.mem_append.1 hy with h | h
              · exact HG.out y h
              · obtain rfl := List.mem_singleton.1 h; omega
          case measure => simp [intOf]; omega
    · obtain rfl : i = 16 := by omega
      have hg := HG.out
      have hsm := HS.out
      rw [HALL.out] at hg hsm
      obtain ⟨cn, rfl, hcl, hcb⟩ := natsI_of hg
      rw [natsI_sum] at hsm
      obtain ⟨m, hm⟩ : ∃ m, m = cn.sum := ⟨_, rfl⟩
      rw [← hm] at hsm
      subst hsm
      have hcn16 : cn.length = 16 := by rw [hcl]; exact hct
      have hCS := checkS_nat cn vs hcb
      rw [← hm, hlen] at hCS
      have HCS := Lib.hid hCS
      have HM := Lib.hid hm
      have HLEN := Lib.hid hlen
      clear hg hCS hm HG HS HALL HMEM HTK HW HAT hcl hct hlen
      by_cases hne : m = len
      · subst hne
        by_cases h256 : 256 < m
        · have hC : checkS (natsI cn) vs = false := by rw [HCS.out, decide_eq_false_iff_not]; rintro ⟨_, h, _⟩; omega
          have HC := Lib.hid hC
          clear hC
          gi_wp2
          exact ⟨_, results_cell_one rfl _ _ ⟨W.heap.size + 1, 0, none⟩ (.bool false) _ rfl hbx.cell Try.underlying4 rfl, by rw [HC.out], hbe1⟩
        · have hz := zero52
          have hB2 : Blk (((W.alloc (.cells cells 30)).alloc (.cells #[.bool false] 4)).alloc (.cells (Array.replicate 256 (.bool false)) 52)) W.heap.size 30 cells := hB1.alloc _
          have hrg2 := hB2.range 0 cells.toList (fun j v hv => by rw [Nat.zero_add]; simpa using hv)
          have hi27 : (Try.prog.info? 30).map (·.size) = some cells.toList.length := by rw [Array.length_toList, hsz]; kernel_rfl
          gi_wp2_with (first | (refine wpListIn_load_mid rfl 30 (.tmp 1) rfl W.heap.size 0 rfl _ _ hrg2 Try.underlying30 rfl hi27 ?_; rw [Array.toArray_toList]) | (refine ⟨trivial, ?_⟩; gi_at_call 21; refine (laid_in Fence.wide (n - 1) trivial hro _ _).mono ?_; rintro e w' ⟨rfl, rfl⟩))
          have hB3 : Blk ((((W.alloc (.cells cells 30)).alloc (.cells #[.bool false] 4)).alloc (.cells (Array.replicate 256 (.bool false)) 52)).alloc (.cells cells 30)) (W.heap.size + 1 + 1 + 1) 30 cells := by
            have := Blk.new (((W.alloc (.cells cells 30)).alloc (.cells #[.bool false] 4)).alloc (.cells (Array.replicate 256 (.bool false)) 52)) 30 cells
            rwa [World.size_alloc, World.size_alloc, World.size_alloc] at this
          have hS3 : Blk ((((W.alloc (.cells cells 30)).alloc (.cells #[.bool false] 4)).alloc (.cells (Array.replicate 256 (.bool false)) 52)).alloc (.cells cells 30)) (W.heap.size + 1 + 1) 52 (seenC (valsOf vs [])) := by
            have := Blk.new ((W.alloc (.cells cells 30)).alloc (.cells #[.bool false] 4)) 52 (Array.replicate 256 (.bool false))
            rw [World.size_alloc, World.size_alloc] at this
            rw [show valsOf vs [] = [] from rfl, seenC_nil]
            exact this.alloc _
          have hX3 := (hbx.alloc (.cells (Array.replicate 256 (.bool false)) 52)).alloc (.cells cells 30)
          have hbe3 := (hbe1.alloc (by simp; omega) (.cells (Array.replicate 256 (.bool false)) 52)).alloc (by simp; omega) (.cells cells 30)
          have hG3 := (hB2.alloc (.cells cells 30))
          refine wpIn_rangeFunc_ownH (F := Fence.wide) hro h1 (gf := 28) (lb := #[.pointer (some ⟨W.heap.size + 1 + 1 + 1, 0, none⟩)]) rfl True.intro (enters_of Try.func28 (by kernel_rfl) rfl)
            (laid_stops Fence.wide (n - 1) trivial hro (by omega) W.heap.size (W.heap.size + 1 + 1 + 1) cn (.slice A m c) hcn16 hcb _ (by rw [← HCELLS.out]; exact hB3)) Below.trans (kb_below (by simp; omega)) (Below.refl _ _) (fun _ => rfl)
            (fun pre W' => Blk W' W.heap.size 30 cells ∧ Boxed W' (W.heap.size + 1) 4 (.bool false) ∧ Blk W' (W.heap.size + 1 + 1) 52 (seenC (valsOf vs (raw pre))) ∧ Below W.heap.size W W' ∧ ((valsOf vs (raw pre)).Nodup ∧ ∀ e ∈ raw pre, e.2.2 + 1 < 2 ^ e.2.1))
            (fun c pre W' => c = .ret ∧ Boxed W' (W.heap.size + 1) 4 (.bool false) ∧ Below W.heap.size W W' ∧ ¬ ((valsOf vs (raw pre)).Nodup ∧ ∀ e ∈ raw pre, e.2.2 + 1 < 2 ^ e.2.1))
            ?hI ?hIx ⟨hG3, hX3, hS3, hbe3, by simp [valsOf, raw]⟩
            (fun x a' W' => ∃ d, Blk W' d 37 #[.int .i64 x.1.2.1, .int .i64 x.1.2.2] ∧ a' = { tmps := #[.agg cells, .pointer (some ⟨W.heap.size, 0, none⟩), .pointer (some ⟨W.heap.size + 1, 0, none⟩), .int .i64 m, undef, u5, .pointer (some ⟨W.heap.size + 1 + 1, 0, none⟩), .int .i64 x.1.1, .pointer (some ⟨d, 0, none⟩), undef, .pointer (some ⟨W.heap.size, 0, none⟩), .agg arr, .int .i64 16, .bool false, u14, u15, u16, u17, u18, u19, u20, u21, u22, u23, u24, .int .i64 m, .pointer (some ⟨W.heap.size, 16, none⟩), .slice A m c, .int .i64 m, .bool false, .bool false, .int .i64 m, .bool (decide (256 < (m : Int))), .bool (decide (256 < (m : Int))), .agg cells, .func (.func 28) #[] #[.pointer (some ⟨W.heap.size + 1 + 1 + 1, 0, none⟩)], .int .i64 x.1.1, .agg #[.int .i64 x.1.2.1, .int .i64 x.1.2.2], undef, undef, undef, undef, undef, undef, undef, undef, undef, undef, undef, undef, undef, undef, undef, undef, undef, undef, undef], defers := [] })
            ?hAx ?assign ?body ?done ?stop
          case hI => exact OwnFrom.and (Own.from (blk_own _ _ (fun _ => cells)) _) (OwnFrom.and (Own.from (boxed_own _ _ (fun _ => .bool false)) _) (OwnFrom.and (Own.from (blk_own _ _ (fun pre => seenC (valsOf vs (raw pre)))) _) (OwnFrom.and (ownFrom_below (Nat.le_refl _) (by simp; omega)) (ownFrom_pure _ _))))
          case hIx => exact fun cd => OwnFrom.and (ownFrom_pure _ (fun _ => cd = .ret)) (OwnFrom.and (Own.from (boxed_own _ _ (fun _ => .bool false)) _) (OwnFrom.and (ownFrom_below (Nat.le_refl _) (by simp; omega)) (ownFrom_pure _ _)))
          case hAx =>
            rintro x a' _ X Y row ⟨d, hbk, e⟩ hg hrow
            exact ⟨d, hbk.grown hg (fun e' => by obtain ⟨_, o, ho, hc⟩ := hrow d e'.symm; rw [show X.heap[d]? = _ from hbk] at ho; cases ho; cases hc), e⟩
          case assign =>
            intro l pre x W' K hI hK
            simp only [encL]
            gi_wp2
            obtain ⟨hG, hX, hS, hbe, hnd⟩ := hI
            exact hK _ _ (KeepsFrom.of_grownBy (World.grownBy_alloc W' _ none) (fun r e => by cases e)) ((Below.refl _ _).alloc (by have := hbe.size; omega) _) ⟨hG.alloc _, hX.alloc _, hS.alloc _, hbe.alloc (by have := hbe.size; omega) _, hnd⟩ ⟨_, Blk.new W' 37 _, rfl⟩
          case body =>
            rename_i k4 q2 q1 k3 a3 hh k2 a2 hw0
            clear a3 a2 k3 k2 q1 q2 k4 hw0
            rintro l pre x a' W' hl hlr ⟨hG, hX, hS, hbe, hnd, hfit⟩ ⟨d, hbk, rfl⟩ hlt
            dsimp only
            obtain ⟨m1, m2, _, m3⟩ := laidC_mem x.2
            rw [Nat.zero_add, ← HM.out] at m3
            rw [Nat.zero_add, hcn16] at m2
            obtain ⟨ad, u, rfl, _, hx, hcx⟩ := (hr.below hbe).at_ (k := x.1.1) m3
            have hx' : vs[x.1.1]? = some (vs.getD x.1.1 0) := by rw [List.getD_eq_getElem?_getD, List.getElem?_eq_getElem (by rw [HLEN.out]; exact m3)]; rfl
            obtain rfl : u = .int .u8 (vs.getD x.1.1 0) := by
              rw [bytesV, List.getElem?_map, hx'] at hx; simpa using hx.symm
            obtain ⟨v0, v1⟩ := getD_bd hvb x.1.1
            obtain ⟨vn, hvn⟩ : ∃ vn : Nat, vs.getD x.1.1 0 = vn := ⟨(vs.getD x.1.1 0).toNat, by omega⟩
            rw [hvn] at hcx v0 v1
            have hv256 : vn < 256 := by omega
            have hc16 : W'.cell? ⟨W.heap.size, 16, none⟩ = some (.slice (some ad) m c) := by
              rw [hG.cell, Array.getElem?_eq_getElem (by omega), hla]
            have hcs : W'.cell? ⟨W.heap.size + 1 + 1, vn, none⟩ = some (.bool (decide ((vn : Int) ∈ valsOf vs (raw pre)))) := by
              rw [hS.cell, seenC_at _ _ hv256]
            have hd0 : W'.cell? ⟨d, 0, none⟩ = some (.int .i64 x.1.2.1) := hbk.cell 0
            have hd1 : W'.cell? ⟨d, 1, none⟩ = some (.int .i64 x.1.2.2) := hbk.cell 1
            have t0 : (0 : Int) ≤ (x.1.1 : Int) := Int.natCast_nonneg _
            have t1 : (x.1.1 : Int) < (m : Int) := by omega
            have HVN := Lib.hid hvn
            obtain ⟨⟨at_, N, V⟩, hxL⟩ := x
            simp only at *
            clear hvn hx hx'
            have t2 : (0 : Int) ≤ (vn : Int) := Int.natCast_nonneg _
            have t3 : (vn : Int) < 256 := by omega
            have hmx : Try.prog.follows .mixedOrders = true := by kernel_rfl
            have hXc := hX.cell
            have hXf := hX.frozen
            have hSf := hS.frozen vn
            have HHR := Lib.hid hr
            have HF := Lib.hid hfit
            have HND := Lib.hid hnd
            have hwne : ∀ K : Code, Exit.then (fun _ _ => False) (fun _ _ _ => False) = Exit.then (fun _ _ => False) (fun _ _ _ => False) := fun _ => rfl
            clear hr hrg hrg2 hi16 hi27 hla hla' hz hcb hlr hlt hB1 hB2 hB3 hS3 hX3 hG3 hbe3 hbe1 hbx hfit hnd hwne
            by_cases hseen : (vn : Int) ∈ valsOf vs (raw pre)
            · have hsd : decide ((vn : Int) ∈ valsOf vs (raw pre)) = true := by simpa using hseen
              rw [hsd] at hcs
              have HSE := Lib.hid hseen
              clear hsd hseen
              gi_wp2
              refine wpIn_region_still_tail 11 hmx (by kernel_rfl) (by rintro ⟨a, w, h⟩; simp only [Exit.then, Exit.inBlock] at h; exact h) (by kernel_rfl) ?_
              simp only [List.take_succ_cons, List.take_zero, List.drop_succ_cons, List.drop_zero]
              still_step
              still_step
              still_step
              still_step
              repeat (refine wpStill_skip (by simp [Region.wanted, yielded]) ?_; go_simp)
              refine wpStill_nil ?_
              go_wp2
              gi_wp2
              refine ⟨((KeepsOthers.drew _).trans (KeepsOthers.setCell _ _ _)).from _, rfl, Boxed.set (W := W'.drew) _ hX, hbe.drew.setCell (p := ⟨W.heap.size + 1, 0, none⟩) (by simp) _, ?_⟩
              rintro ⟨h, _⟩
              rw [raw_snoc, valsOf_snoc, HVN.out] at h
              exact (List.nodup_append.1 h).2.2 _ HSE.out _ (List.mem_singleton.2 rfl) rfl
            · have hsd : decide ((vn : Int) ∈ valsOf vs (raw pre)) = false := by simpa using hseen
              rw [hsd] at hcs
              have HSE := Lib.hid hseen
              have p1 : 2 ^ N ≤ 2 ^ 16 := Nat.pow_le_pow_right (by omega) m2
              have q1 := pow_le_int N 16 m2
              have q2 := pow_pos_int N
              have hcast : ((2 ^ N : Nat) : Int) = (2 : Int) ^ N := by simp
              have HC2 := Lib.hid hcast
              clear hcast hsd hseen
              by_cases hfull : V + 1 < 2 ^ N
              · have hlt3 : ((V : Int)) < 2 ^ N - 1 := by rw [← HC2.out]; omega
                have HFU := Lib.hid hfull
                clear hfull p1
                gi_wp2
                refine wpIn_region_still_tail 11 hmx (by kernel_rfl) (by rintro ⟨a, w, h⟩; simp only [Exit.then, Exit.inBlock] at h; exact h) (by kernel_rfl) ?_
                simp only [List.take_succ_cons, List.take_zero, List.drop_succ_cons, List.drop_zero]
                iterate 11 still_step
                refine wpStill_nil ?_
                go_wp2
                gi_wp2
                have hS' : Blk (W'.setCell ⟨W.heap.size + 1 + 1, vn, none⟩ (.bool true)).drew (W.heap.size + 1 + 1) 52 (seenC (valsOf vs (raw (pre ++ [⟨(at_, N, V), hxL⟩])))) := by
                  rw [raw_snoc, valsOf_snoc, HVN.out, ← seenC_snoc _ _ hv256]
                  exact (hS.set_ vn _).drew
                refine ⟨((KeepsOthers.setCell _ _ _).trans (KeepsOthers.drew _)).from _, ((Below.refl _ _).setCell (p := ⟨W.heap.size + 1 + 1, vn, none⟩) (by simp; omega) _).drew, (hG.far (p := ⟨W.heap.size + 1 + 1, vn, none⟩) (by simp; omega) _).drew, ?_, hS', (hbe.setCell (p := ⟨W.heap.size + 1 + 1, vn, none⟩) (by simp; omega) _).drew, ?_, ?_⟩
                · exact Blk.far (w := W') (cs := #[.bool false]) hX (p := ⟨W.heap.size + 1 + 1, vn, none⟩) (by simp) _
                · rw [raw_snoc, valsOf_snoc, HVN.out, List.nodup_append]
                  exact ⟨HND.out, by simp, fun a ha b hb => by rw [List.mem_singleton] at hb; subst hb; rintro rfl; exact HSE.out ha⟩
                · intro e he
                  rw [raw_snoc] at he
                  rcases List.mem_append.1 he with h | h
                  · exact HF.out e h
                  · obtain rfl := List.mem_singleton.1 h; exact HFU.out
              · have hlt3 : ((2 : Int) ^ N - 1 ≤ (V : Int)) := by rw [← HC2.out]; omega
                have HFU := Lib.hid hfull
                clear hfull p1
                gi_wp2
                refine wpIn_region_still_tail 11 hmx (by kernel_rfl) (by rintro ⟨a, w, h⟩; simp only [Exit.then, Exit.inBlock] at h; exact h) (by kernel_rfl) ?_
                simp only [List.take_succ_cons, List.take_zero, List.drop_succ_cons, List.drop_zero]
                iterate 11 still_step
                refine wpStill_nil ?_
                go_wp2
                gi_wp2
                refine ⟨((KeepsOthers.drew _).trans (KeepsOthers.setCell _ _ _)).from _, rfl, Boxed.set (W := W'.drew) _ hX, hbe.drew.setCell (p := ⟨W.heap.size + 1, 0, none⟩) (by simp) _, ?_⟩
                rintro ⟨_, h⟩
                refine HFU.out (h (at_, N, V) ?_)
                rw [raw_snoc]; exact List.mem_append_right _ (List.mem_singleton.2 rfl)
          case done =>
            rintro D ys W' hD hys ⟨hG, hX, hS, hbe, hnd, hfit⟩ hKD
            have hC : checkS (natsI cn) vs = true := by
              rw [HCS.out, decide_eq_true_eq]
              rw [hys] at hnd hfit
              rw [valsOf_all cn vs (by rw [HLEN.out, ← HM.out])] at hnd
              exact ⟨trivial, by omega, hnd, hfit⟩
            have hXc := hX.cell
            have hXf := hX.frozen
            have HCt := Lib.hid hC
            clear hC
            gi_wp2
            have hKD2 := (KeepsOthers.setCell W' ⟨W.heap.size + 1, 0, none⟩ (.bool true)).same D _ hKD rfl
            refine ⟨by simp, .inl ⟨_, _, rfl, run_takeDeferred hKD2, ?_⟩⟩
            refine ⟨_, results_cell_one rfl _ _ ⟨W.heap.size + 1, 0, none⟩ (.bool true) _ rfl (cell_kept (Boxed.set (W := W') _ hX).cell (grownBy_putObj' _ D (.deferred none)) (fun r e => by cases e; exact ⟨_, hKD2, rfl⟩)) Try.underlying4 rfl, by rw [HCt.out], ?_⟩
            exact (hbe.setCell (p := ⟨W.heap.size + 1, 0, none⟩) (by simp) _).trans (belowK_b (w := W) (Nat.le_refl _) _ D _ _ (by simp at hD; omega) hKD2 rfl rfl)
          case stop =>
            rintro D cd pre W' hD hpre ⟨rfl, hX, hbe, hno⟩ hKD
            have hC : checkS (natsI cn) vs = false := by
              rw [HCS.out, decide_eq_false_iff_not]
              rintro ⟨_, _, h1, h2⟩
              refine hno ⟨?_, fun e he => h2 e (hpre.subset he)⟩
              refine List.Sublist.nodup (List.IsPrefix.sublist (valsOf_prefix hpre)) ?_
              rw [valsOf_all cn vs (by rw [HLEN.out, ← HM.out])]; exact h1
            have hXc := hX.cell
            have hXf := hX.frozen
            have HCt := Lib.hid hC
            clear hC
            gi_wp2
            refine ⟨by simp, .inl ⟨_, _, rfl, run_takeDeferred hKD, ?_⟩⟩
            refine ⟨_, results_cell_one rfl _ _ ⟨W.heap.size + 1, 0, none⟩ (.bool false) _ rfl (cell_kept hX.cell (grownBy_putObj' _ D (.deferred none)) (fun r e => by cases e; exact ⟨_, hKD, rfl⟩)) Try.underlying4 rfl, by rw [HCt.out], ?_⟩
            exact hbe.trans (belowK_b (w := W) (Nat.le_refl _) _ D _ _ (by simp at hD; omega) hKD rfl rfl)
      · have hC : checkS (natsI cn) vs = false := by rw [HCS.out, decide_eq_false_iff_not]; rintro ⟨h, _⟩; exact hne h
        have HC := Lib.hid hC
        have hne2 : ((m : Int) == (len : Int)) = false := by simp; omega
        clear hC
        gi_wp2
        exact ⟨_, results_cell_one rfl _ _ ⟨W.heap.size + 1, 0, none⟩ (.bool false) _ rfl hbx.cell Try.underlying4 rfl, by rw [HC.out], hbe1⟩
end Go.Proofs.Ytdkgficmodcolaa
