/- bits.Pack: at every slice of codes: the bytes and the number of their bits; nothing that lay has turned. -/
import Derived.Test.YtijnldbbibgjcaaDoorPackMath
import Derived.Test.YtijnldbbibgjcaaDoorRound
import Derived.BigRegionIn
import Derived.RegionIn
namespace Go.Proofs.YtijnldbbibgjcaaDoor
open Go.RowKit Go.Shelf
attribute [local go_sem] Oper.semAt_some

set_option maxHeartbeats 1000000 in
theorem each_in (F : Fence) (n : Nat) (h16 : F.fn 16) (hro : F.round = none) (A : Option Addr) (len c : Nat) (w : World) :
    CallsIn F n Tryd.prog 16 #[.slice A len c] w fun e w' => e = .returned (.func (.func 22) #[] #[.pointer (some ⟨w.heap.size, 0, none⟩)]) ∧ w' = w.alloc (.cells #[.slice A len c] 23) := by
  refine callsIn_of_wp Tryd.func16 rfl h16 ?_ hro
  simp only [Tryd.ntmps16, List.size_toArray, List.length_cons, List.length_nil, Nat.reduceAdd, Nat.reduceSub, Array.replicate_succ, Array.replicate_zero, List.push_toArray, List.append_toArray, List.nil_append, List.cons_append]
  gi_wp2
  go_ret
  exact ⟨rfl, rfl⟩

theorem kpE_t {n₀ : Nat} {A B C : World} (h : KpE n₀ A B) (k : KpE n₀ B C) : KpE n₀ A C := ⟨h.1.trans k.1, fun g cs hg => k.2 g cs (h.2 g cs hg)⟩
theorem kpE_b {n₀ : Nat} {w : World} (hn : n₀ ≤ w.heap.size) (W : World) (l : Nat) (o o' : Obj) (hl : w.heap.size ≤ l) (h : W.heap[l]? = some o) (hc : o.isCells = false) (hw : o.isWalk = false) : KpE n₀ W (W.putObj l o') :=
  ⟨belowK_b hn W l o o' hl h hc hw, fun g cs hg => by
    by_cases e : g = l
    · subst e; rw [h] at hg; cases hg; cases hc
    · rw [World.putObj_heap_other e]; exact hg⟩

theorem each_stops (F : Fence) (n : Nat) (h22 : F.fn 22) (hro : F.round = none) (hn : 1 ≤ n) (Bn n₀ : Nat) (A : Option Addr) (c : Nat) (cs : List (Int × Int)) (hlen : cs.length ≤ 140737488355328) (hwf : WfCodes cs) (w : World)
    (hBn : Bn < w.heap.size) (hn₀ : n₀ ≤ w.heap.size) (hc : w.cell? ⟨Bn, 0, none⟩ = some (.slice A cs.length c)) (hL : Reads w n₀ 2 A cs.length (codesV cs)) :
    SeqStopsK F n Tryd.prog 22 #[.pointer (some ⟨Bn, 0, none⟩)] (fun x : Bool => #[Value.int .u8 (bI x)]) (KpE n₀) (fun ys => ys = codesBits cs) (fun pre => pre <+: codesBits cs) (codesBits cs).length w :=
  fun l J Jx W hW hJ _ hY h0 =>
    each1_in F n h22 hro hn l Bn n₀ A c cs hlen hwf J Jx (fun s W o h => by
      exact hJ s W _ none h (World.grownBy_alloc W o none) (fun r e => by cases e)) hY W ((hW.cell (p := ⟨Bn, 0, none⟩) hBn).trans hc) (hL.below (hW.mono hn₀)) (Nat.le_trans hn₀ hW.size) h0

theorem codesBits_bd (cs : List (Int × Int)) : (codesBits cs).length ≤ 32 * cs.length := by
  induction cs with
  | nil => simp [codesBits]
  | cons c cs ih =>
    have e : codesBits (c :: cs) = topBits c.2 (clipN c.1) ++ codesBits cs := by simp [codesBits]
    have : clipN c.1 ≤ 32 := by unfold clipN; omega
    rw [e, List.length_append, topBits_length, List.length_cons]; omega
theorem KeepsT.refl (t : TypeId) (W : World) : KeepsT t W W := fun _ _ h => h
theorem KeepsT.trans {t : TypeId} {A B C : World} (h : KeepsT t A B) (k : KeepsT t B C) : KeepsT t A C := fun g cs hg => k g cs (h g cs hg)
theorem KeepsT.grown {t : TypeId} {W W' : World} {row : Option Nat} (hg : W.grownBy W' row) (hr : ∀ r, row = some r → ∃ cs e f, W.heap[r]? = some (.cells cs e f) ∧ e ≠ t) : KeepsT t W W' := fun g cs h => by
  have hlt : g < W.heap.size := (Array.getElem?_eq_some_iff.1 h).1
  refine (hg.block g hlt fun e => ?_).trans h
  obtain ⟨cs', e', f, h', hne⟩ := hr g e.symm
  rw [h] at h'; cases h'; exact hne rfl
theorem KeepsT.alloc (t : TypeId) (W : World) (o : Obj) : KeepsT t W (W.alloc o) := .grown (World.grownBy_alloc W o none) (fun r e => by cases e)
theorem KeepsT.setCell {t t' : TypeId} {W : World} {B : Nat} {cs : Array Value} {f : Nat × Nat} (h : W.heap[B]? = some (.cells cs t' f)) (hne : t' ≠ t) (a : Addr) (ha : a.block = B) (u : Value) : KeepsT t W (W.setCell a u) := fun g cs' hg => by
  refine (Below.heap_setCell W a u g fun e => ?_).trans hg
  rw [ha] at e; subst e; rw [h] at hg; cases hg; exact hne rfl
theorem own_type {w : World} {base : Nat} {e : TypeId} {size n : Nat} {v : Value} {xs : List Value} (h : w.ownsRow base e size v n xs) (t : TypeId) (hne : e ≠ t) : ∀ r, v.ownBlock = some r → ∃ cs e' f, w.heap[r]? = some (.cells cs e' f) ∧ e' ≠ t := by
  intro r hr
  rcases h.2 with ⟨rfl, _⟩ | ⟨g, cap, cur, rfl, _, hh, _⟩
  · simp [Value.ownBlock] at hr
  · have : g = r := by simpa [Value.ownBlock] using hr
    subst this
    exact ⟨_, _, _, hh, hne⟩
theorem xor_val (X Y : Int) (S : Nat) (h0 : 0 ≤ X) (h1 : X ≤ 255) (hS : S ≤ 7) (hX : X / 2 ^ S % 2 = 1) (hY : Y = 0 ∨ Y = 1) :
    bits .xor .u8 X (IntKind.u8.wrap (Y * 2 ^ min S 8)) = X - Y * 2 ^ S := by
  obtain ⟨x, rfl⟩ := Int.eq_ofNat_of_zero_le h0
  have p := pow_le_int S 7 hS
  have p1 := pow_pos_int S
  rw [Nat.min_eq_left (by omega), IntKind.wrap_u8']
  rcases hY with rfl | rfl
  · have e : (0 : Int) * 2 ^ S % 256 = ((0 : Nat) : Int) := by simp
    rw [e, u8_xor_nat _ _ (by omega) (by omega)]; simp
  · have hx := xor_turn ⟨x, by omega⟩ ⟨S, by omega⟩ (by
      have : ((x / 2 ^ S % 2 : Nat) : Int) = 1 := by rw [← hX]; simp
      exact_mod_cast this)
    simp only at hx
    have e : (1 : Int) * 2 ^ S % 256 = ((2 ^ S : Nat) : Int) := by
      rw [Int.one_mul, Int.emod_eq_of_lt (by omega) (by omega)]; simp
    have hle : 2 ^ S ≤ x := by
      rcases Nat.lt_or_ge x (2 ^ S) with h | h
      · exfalso
        have : ((x / 2 ^ S % 2 : Nat) : Int) = 1 := by rw [← hX]; simp
        rw [Nat.div_eq_of_lt h] at this; simp at this
      · exact h
    have hb : 2 ^ S < 256 := by
      have := Nat.pow_le_pow_right (n := 2) (by omega) hS
      omega
    rw [e, u8_xor_nat _ _ (by omega) hb, hx, Int.one_mul, Int.ofNat_sub hle]; simp

theorem pack_close {w W W2 : World} {pre : List Bool} {x : Bool} {g' cap' B : Nat} 
    (hv2 : Boxed W2 w.heap.size 22 (.slice (some ⟨g', 0, none⟩) (pre.length / 8 + 1) cap')) (hN2 : Boxed W2 (w.heap.size + 1) 3 (.int .i64 pre.length))
    (hr3 : W2.ownsRow w.heap.size 5 1 (.slice (some ⟨g', 0, none⟩) (pre.length / 8 + 1) cap') (pre.length / 8 + 1) (bytesV (padded pre (pre.length / 8 + 1))))
    (hk2 : KeepsOthers W W2) (hb2 : Below w.heap.size W W2) (hT2 : KeepsT 25 W W2) (hB : Below w.heap.size w W)
    (N : Int) (hN : N = (padded pre (pre.length / 8 + 1)).getD (pre.length / 8) 0 - (1 - bI x) * 2 ^ (7 - pre.length % 8)) (W3 : World)
    (hW3 : W3 = ((W2.setCell ⟨g', pre.length / 8, none⟩ (.int .u8 N)).setCell ⟨w.heap.size + 1, 0, none⟩ (.int .i64 (pre.length + 1)))) :
    KeepsFrom B W W3 ∧ KpE w.heap.size W W3 ∧ ((∃ v, Boxed W3 w.heap.size 22 v ∧ W3.ownsRow w.heap.size 5 1 v (packB (pre ++ [x])).length (bytesV (packB (pre ++ [x]))) ∧ True) ∧
      Boxed W3 (w.heap.size + 1) 3 (.int .i64 (pre ++ [x]).length) ∧ Below w.heap.size w W3) := by
  obtain ⟨s1, s2⟩ := hr3.stored (pre.length / 8) (.int .u8 N)
  have hg : w.heap.size ≤ g' := (hr3.lt g' rfl).1
  have hne1 : some (w.heap.size + 1) ≠ some g' := hN2.not_row (e := 5) (by decide) hr3
  have hne0 : some w.heap.size ≠ some g' := hv2.not_row (e := 5) (by decide) hr3
  have hN3 : Boxed (W2.setCell ⟨g', pre.length / 8, none⟩ (.int .u8 N)) (w.heap.size + 1) 3 (.int .i64 pre.length) := hN2.kept s2 hne1
  have hv3 : Boxed (W2.setCell ⟨g', pre.length / 8, none⟩ (.int .u8 N)) w.heap.size 22 (.slice (some ⟨g', 0, none⟩) (pre.length / 8 + 1) cap') := hv2.kept s2 hne0
  have hrow4 : W3.ownsRow w.heap.size 5 1 (.slice (some ⟨g', 0, none⟩) (pre.length / 8 + 1) cap') (pre.length / 8 + 1) (bytesV (packB (pre ++ [x]))) := by
    rw [hW3]
    refine ownsRow_setCell_other ?_ (by simp [Value.ownBlock]; intro e; exact hne1 (by rw [e])) _
    rw [packB_snoc, padded_snoc, ← hN]
    have e : bytesV ((padded pre (pre.length / 8 + 1)).set (pre.length / 8) N) = (bytesV (padded pre (pre.length / 8 + 1))).set (pre.length / 8) (.int .u8 N) := by
      unfold bytesV; rw [List.map_set]
    rw [e]; exact s1
  have hB3 : Below w.heap.size W W3 := by
    rw [hW3]; exact (hb2.setCell (p := ⟨g', pre.length / 8, none⟩) hg _).setCell (p := ⟨w.heap.size + 1, 0, none⟩) (by simp) _
  have hT3 : KeepsT 25 W W3 := by
    obtain ⟨cs, e', f, h1, h2⟩ := own_type hr3 25 (by decide) g' rfl
    rw [hW3]; exact (hT2.trans (KeepsT.setCell h1 h2 ⟨g', pre.length / 8, none⟩ rfl _)).trans (KeepsT.setCell (t' := 3) hN3 (by decide) _ rfl _)
  refine ⟨KeepsOthers.from ?_ _, ⟨hB3, hT3⟩, ⟨.slice (some ⟨g', 0, none⟩) (pre.length / 8 + 1) cap', ?_, ?_, trivial⟩, ?_, hB.trans hB3⟩
  · rw [hW3]; exact (hk2.trans (KeepsOthers.setCell _ _ _)).trans (KeepsOthers.setCell _ _ _)
  · rw [hW3]; exact hv3.other (by omega) _
  · have e : (packB (pre ++ [x])).length = pre.length / 8 + 1 := by rw [packB_snoc, padded_length]
    rw [e]; exact hrow4
  · rw [hW3]
    have := hN3.set (.int .i64 ((pre ++ [x]).length : Nat))
    simp only [List.length_append, List.length_singleton, Int.natCast_add] at this ⊢
    exact this

theorem pack_close_drew {w W W3 : World} {pre : List Bool} {x : Bool} {B : Nat}
    (h : KeepsFrom B W W3 ∧ KpE w.heap.size W W3 ∧ ((∃ v, Boxed W3 w.heap.size 22 v ∧ W3.ownsRow w.heap.size 5 1 v (packB (pre ++ [x])).length (bytesV (packB (pre ++ [x]))) ∧ True) ∧
      Boxed W3 (w.heap.size + 1) 3 (.int .i64 (pre ++ [x]).length) ∧ Below w.heap.size w W3)) :
    KeepsFrom B W W3.drew ∧ KpE w.heap.size W W3.drew ∧ ((∃ v, Boxed W3.drew w.heap.size 22 v ∧ W3.drew.ownsRow w.heap.size 5 1 v (packB (pre ++ [x])).length (bytesV (packB (pre ++ [x]))) ∧ True) ∧
      Boxed W3.drew (w.heap.size + 1) 3 (.int .i64 (pre ++ [x]).length) ∧ Below w.heap.size w W3.drew) :=
  ⟨⟨h.1.size, h.1.same⟩, ⟨h.2.1.1.drew, h.2.1.2⟩, h.2.2.1, h.2.2.2.1, h.2.2.2.2.drew⟩
theorem info5 : (Tryd.prog.info? 5).map (fun i => (i.zero, i.size, i.bytes)) = some (some (.int .u8 0), 1, 1) := by kernel_rfl

set_option maxRecDepth 100000 in
set_option maxHeartbeats 2000000 in
theorem pack_in (n : Nat) (hn : 3 ≤ n) (A : Option Addr) (c : Nat) (cs : List (Int × Int)) (hlen : cs.length ≤ 4294967296) (hwf : WfCodes cs) (w : World)
    (hL : Reads w w.heap.size 2 A cs.length (codesV cs)) :
    CallsIn Fence.wide n Tryd.prog 8 #[.slice A cs.length c] w fun e W' => ∃ v, e = .returned (.tuple #[v, .int .i64 (codesBits cs).length]) ∧
      W'.ownsRow w.heap.size 5 1 v (packB (codesBits cs)).length (bytesV (packB (codesBits cs))) ∧ Below w.heap.size w W' := by
  have h1 : 1 ≤ n := by omega
  have hro : Fence.wide.round = none := rfl
  obtain ⟨ii, hi, hz0, hz1, hz2⟩ := info_parts info5
  refine callsIn_of_wp_marks Tryd.func8 rfl trivial ?_ hro
  simp only [Tryd.ntmps8, List.size_toArray, List.length_cons, List.length_nil, Nat.reduceAdd, Nat.reduceSub, Array.replicate_succ, Array.replicate_zero, List.push_toArray, List.append_toArray, List.nil_append, List.cons_append]
  gi_wp2_with (refine ⟨trivial, ?_⟩; gi_at_call 16; refine (each_in Fence.wide (n - 1) trivial hro _ _ _ _).mono ?_; rintro e w' ⟨rfl, rfl⟩)
  have bO := Boxed.new w 22 (.slice none 0 0)
  have bN := Boxed.new (w.alloc (.cells #[.slice none 0 0] 22)) 3 (.int .i64 0)
  rw [World.size_alloc] at bN
  have bL := Boxed.new ((w.alloc (.cells #[.slice none 0 0] 22)).alloc (.cells #[.int .i64 0] 3)) 23 (.slice A cs.length c)
  rw [World.size_alloc, World.size_alloc] at bL
  have hB0 : Below w.heap.size w (((w.alloc (.cells #[.slice none 0 0] 22)).alloc (.cells #[.int .i64 0] 3)).alloc (.cells #[.slice A cs.length c] 23)) := (((Below.refl _ w).alloc (Nat.le_refl _) _).alloc (by simp) _).alloc (by simp; omega) _
  have hbits : (codesBits cs).length ≤ 32 * cs.length := codesBits_bd cs
  refine wpIn_rangeFunc_ownG (F := Fence.wide) hro h1 (gf := 22) (lb := #[.pointer (some ⟨w.heap.size + 1 + 1, 0, none⟩)]) rfl True.intro (enters_of Tryd.func22 (by kernel_rfl) rfl)
    (each_stops Fence.wide (n - 1) trivial hro (by omega) (w.heap.size + 1 + 1) w.heap.size A c cs (by omega) hwf _ (by simp) (by simp; omega) bL.cell (hL.below hB0)) kpE_t (kpE_b (by simp; omega)) (Below.refl _ _) (fun _ => rfl)
    (fun pre W => (∃ v, Boxed W w.heap.size 22 v ∧ W.ownsRow w.heap.size 5 1 v (packB pre).length (bytesV (packB pre)) ∧ True) ∧ Boxed W (w.heap.size + 1) 3 (.int .i64 pre.length) ∧ Below w.heap.size w W)
    (fun _ _ _ => False)
    (OwnFrom.and (Own.from (holdsRow_own w.heap.size w.heap.size 22 5 1 (fun pre => (packB pre).length) (fun pre => bytesV (packB pre)) (fun _ _ => True)) _) (OwnFrom.and (Own.from (boxed_own (w.heap.size + 1) 3 (fun pre : List Bool => .int .i64 pre.length)) _) (ownFrom_below (Nat.le_refl _) (by simp; omega))))
    (fun _ _ _ _ _ hs _ _ => hs)
    ⟨⟨_, (bO.alloc _).alloc _, World.ownsRow_nil _ _ _ _, trivial⟩, bN.alloc _, hB0⟩
    (fun x => { tmps := #[.slice A cs.length c, undef, .slice none 0 0, .int .i64 0, .pointer (some ⟨w.heap.size, 0, none⟩), .pointer (some ⟨w.heap.size + 1, 0, none⟩), .int .u8 (bI x), .slice A cs.length c, .func (.func 22) #[] #[.pointer (some ⟨w.heap.size + 1 + 1, 0, none⟩)], .int .u8 (bI x), undef, undef, undef, undef, undef, undef, undef, undef, undef, undef, undef, undef, undef, undef, undef, undef, undef, undef, undef, undef, undef, undef, undef], defers := [] }) ?assign ?body ?done ?stop
  case assign =>
    intro l x W K hK
    gi_wp2
    exact hK
  case body =>
    rintro l pre x W ⟨⟨v, hv, hrow, _⟩, hN, hB⟩ hlt
    have hc := hv.cell
    have hcN := hN.cell
    have hfN := hN.frozen
    have hfv := hv.frozen
    have hpl : pre.length < 32 * cs.length := by omega
    obtain ⟨L, hL8⟩ : ∃ L, L = pre.length / 8 := ⟨_, rfl⟩
    by_cases h8 : pre.length % 8 = 0
    · have hlen8 : (packB pre).length = L := by rw [packB_length]; omega
      have hfull := padded_full pre h8
      rw [← hL8] at hfull
      rw [hlen8] at hrow
      have h8' : (pre.length : Int) % 8 = 0 := by omega
      have H8 := Lib.hid hL8
      clear hL8 hlen8
      gi_wp2_with (gi_at_builtin; refine wpListIn_append_own _ rfl _ _ 22 rfl w.heap.size 5 ii (.int .u8 0) 1 1 Tryd.underlying22 hi hz0 hz1 hz2 rfl (by decide) _ _ _ rfl (hrow.alloc _) ⟨W.heap.size, 0, none⟩ 1 1 [.int .u8 255] rfl rfl (cell_one_new _ _ _) (by simp [Value.oneCell']) (by have := H8.out; unfold maxLen; omega) (by have := H8.out; omega) (by have := hB.size; simp; omega) ?_; intro v' w1 hown' hgrow _; obtain ⟨g', cap', rfl⟩ := ownsRow_succ hown'; obtain ⟨hv1, hv2, hr2, hk2, hb2⟩ := hv.appended (by decide) hrow hB.size (Nat.le_refl _) hown' hgrow; have hc1 := hv1.cell; have hf1 := hv1.frozen)
      have hN2 := ((hN.alloc (.cells #[.int .u8 255] 5)).kept hgrow (hN.not_row (by decide) hrow)).other (by omega : w.heap.size + 1 ≠ w.heap.size) (.slice (some ⟨g', 0, none⟩) (L + 1) cap')
      have hT2 : KeepsT 25 W (w1.setCell ⟨w.heap.size, 0, none⟩ (.slice (some ⟨g', 0, none⟩) (L + 1) cap')) :=
        ((KeepsT.alloc 25 W (.cells #[.int .u8 255] 5)).trans (KeepsT.grown hgrow (own_type (hrow.alloc _) 25 (by decide)))).trans (KeepsT.setCell (t' := 22) hv1 (by decide) _ rfl _)
      have hr3 : (w1.setCell ⟨w.heap.size, 0, none⟩ (.slice (some ⟨g', 0, none⟩) (L + 1) cap')).ownsRow w.heap.size 5 1 (.slice (some ⟨g', 0, none⟩) (L + 1) cap') (L + 1) (bytesV (padded pre (L + 1))) := by
        rw [hfull, bytesV, List.map_append]; exact hr2
      clear hr2 hgrow hown' hfull hc1 hf1 hv1 hc hcN hfN hfv hv hN hrow h8'
      generalize w1.setCell ⟨w.heap.size, 0, none⟩ (.slice (some ⟨g', 0, none⟩) (L + 1) cap') = W2 at *
      obtain ⟨R, hR⟩ : ∃ R, R = pre.length % 8 := ⟨_, rfl⟩
      have hlt8 : L < (padded pre (L + 1)).length := by rw [padded_length]; omega
      have hcX : W2.cell? ⟨g', L, none⟩ = some (.int .u8 ((padded pre (L + 1)).getD L 0)) := by
        rw [hr3.cellAt _ (by omega), bytesV, List.getElem?_map, List.getElem?_eq_getElem hlt8, List.getD_eq_getElem?_getD, List.getElem?_eq_getElem hlt8]; rfl
      have hfX := hr3.frozenAt L
      have hc2 := hv2.cell
      have hcN2 := hN2.cell
      have hfN2 := hN2.frozen
      have hmx : Tryd.prog.follows .mixedOrders = true := by kernel_rfl
      have t1 : (pre.length : Int) / 8 = (L : Int) := by have := H8.out; omega
      have t2 : (pre.length : Int) % 8 = (R : Int) := by have := H8.out; omega
      have t3 : IntKind.i64.wrap (L : Int) = (L : Int) := by rw [IntKind.wrap_i64]; have := H8.out; omega
      have t4 : IntKind.i64.wrap (R : Int) = (R : Int) := by rw [IntKind.wrap_i64]; omega
      obtain ⟨S, hS⟩ : ∃ S, S = 7 - R := ⟨_, rfl⟩
      have t5 : IntKind.i64.wrap (7 - (R : Int)) = (S : Int) := by rw [IntKind.wrap_i64]; omega
      have t7 : (pre.length : Int).tmod 8 = (R : Int) := by rw [Int.tmod_eq_emod_of_nonneg (by omega)]; exact t2
      obtain ⟨Y, hY⟩ : ∃ Y, Y = 1 - bI x := ⟨_, rfl⟩
      have t8 : IntKind.u8.wrap (1 - bI x) = Y := by have := bI_bd x; rw [IntKind.wrap_u8']; omega
      have HS := Lib.hid hS
      have HY := Lib.hid hY
      have HR := Lib.hid hR
      have R8 : R < 8 := by omega
      have t6 : (L : Int) < (L : Int) + 1 := by omega
      have b0 := bI_bd x
      clear hR hlt8 hS hY
      generalize hX : (padded pre (L + 1)).getD L 0 = X at hcX
      have HX := Lib.hid hX
      clear hX
      refine wpIn_region_still_tail 13 hmx (by kernel_rfl) (by rintro ⟨a, w, h⟩; exact h) (by kernel_rfl) ?_
      simp only [List.take_succ_cons, List.take_zero, List.drop_succ_cons, List.drop_zero]
      repeat still_step
      refine wpStill_nil ?_
      clear t1 t2 t3 t4 t5 t6 t7 t8
      gi_wp2
      go_wp2
      have hne := hN2.not_row (e := 5) (by decide) hr3
      have hne1 : ¬ (w.heap.size + 1 = g') := fun e => hne (by rw [e]; rfl)
      have hne2 : ¬ (g' = w.heap.size + 1) := fun e => hne (by rw [e]; rfl)
      clear hne
      gi_wp2
      obtain rfl := H8.out
      refine pack_close_drew (pack_close (g' := g') (cap' := cap') hv2 hN2 hr3 hk2 hb2 hT2 hB _ ?_ _ rfl)
      rw [← IntKind.wrap_u8', ← HX.out, HS.out, HR.out, HY.out]
      have hbit := bitAt_padded pre (pre.length / 8 + 1) pre.length (by omega)
      have hpad : pre.getD pre.length true = true := by rw [List.getD_eq_getElem?_getD, List.getElem?_eq_none (Nat.le_refl _)]; rfl
      rw [hpad] at hbit
      have hXb := getD_bd (padded_bytes pre (pre.length / 8 + 1)) (pre.length / 8)
      exact xor_val _ _ _ hXb.1 hXb.2 (by omega) hbit (by cases x <;> simp [bI])
    · have hlen8 : (packB pre).length = L + 1 := by rw [packB_length]; omega
      have hpart := padded_part pre h8
      rw [← hL8] at hpart
      rw [hlen8, ← hpart] at hrow
      obtain ⟨g', cap', rfl⟩ := ownsRow_succ hrow
      have h8' : ¬ (pre.length : Int) % 8 = 0 := by omega
      have H8 := Lib.hid hL8
      clear hL8 hlen8 hpart
      gi_wp2
      have hr3 := hrow
      have hv2 := hv
      have hN2 := hN
      have hk2 := KeepsOthers.refl W
      have hb2 := Below.refl w.heap.size W
      have hT2 := KeepsT.refl 25 W
      clear hc hcN hfN hfv hv hN hrow h8'
      obtain ⟨R, hR⟩ : ∃ R, R = pre.length % 8 := ⟨_, rfl⟩
      have hlt8 : L < (padded pre (L + 1)).length := by rw [padded_length]; omega
      have hcX : W.cell? ⟨g', L, none⟩ = some (.int .u8 ((padded pre (L + 1)).getD L 0)) := by
        rw [hr3.cellAt _ (by omega), bytesV, List.getElem?_map, List.getElem?_eq_getElem hlt8, List.getD_eq_getElem?_getD, List.getElem?_eq_getElem hlt8]; rfl
      have hfX := hr3.frozenAt L
      have hc2 := hv2.cell
      have hcN2 := hN2.cell
      have hfN2 := hN2.frozen
      have hmx : Tryd.prog.follows .mixedOrders = true := by kernel_rfl
      have t1 : (pre.length : Int) / 8 = (L : Int) := by have := H8.out; omega
      have t2 : (pre.length : Int) % 8 = (R : Int) := by have := H8.out; omega
      have t3 : IntKind.i64.wrap (L : Int) = (L : Int) := by rw [IntKind.wrap_i64]; have := H8.out; omega
      have t4 : IntKind.i64.wrap (R : Int) = (R : Int) := by rw [IntKind.wrap_i64]; omega
      obtain ⟨S, hS⟩ : ∃ S, S = 7 - R := ⟨_, rfl⟩
      have t5 : IntKind.i64.wrap (7 - (R : Int)) = (S : Int) := by rw [IntKind.wrap_i64]; omega
      have t7 : (pre.length : Int).tmod 8 = (R : Int) := by rw [Int.tmod_eq_emod_of_nonneg (by omega)]; exact t2
      obtain ⟨Y, hY⟩ : ∃ Y, Y = 1 - bI x := ⟨_, rfl⟩
      have t8 : IntKind.u8.wrap (1 - bI x) = Y := by have := bI_bd x; rw [IntKind.wrap_u8']; omega
      have HS := Lib.hid hS
      have HY := Lib.hid hY
      have HR := Lib.hid hR
      have R8 : R < 8 := by omega
      have t6 : (L : Int) < (L : Int) + 1 := by omega
      have b0 := bI_bd x
      clear hR hlt8 hS hY
      generalize hX : (padded pre (L + 1)).getD L 0 = X at hcX
      have HX := Lib.hid hX
      clear hX
      refine wpIn_region_still_tail 13 hmx (by kernel_rfl) (by rintro ⟨a, w, h⟩; exact h) (by kernel_rfl) ?_
      simp only [List.take_succ_cons, List.take_zero, List.drop_succ_cons, List.drop_zero]
      repeat still_step
      refine wpStill_nil ?_
      clear t1 t2 t3 t4 t5 t6 t7 t8
      gi_wp2
      go_wp2
      have hne := hN2.not_row (e := 5) (by decide) hr3
      have hne1 : ¬ (w.heap.size + 1 = g') := fun e => hne (by rw [e]; rfl)
      have hne2 : ¬ (g' = w.heap.size + 1) := fun e => hne (by rw [e]; rfl)
      clear hne
      gi_wp2
      obtain rfl := H8.out
      refine pack_close_drew (pack_close (g' := g') (cap' := cap') hv2 hN2 hr3 hk2 hb2 hT2 hB _ ?_ _ rfl)
      rw [← IntKind.wrap_u8', ← HX.out, HS.out, HR.out, HY.out]
      have hbit := bitAt_padded pre (pre.length / 8 + 1) pre.length (by omega)
      have hpad : pre.getD pre.length true = true := by rw [List.getD_eq_getElem?_getD, List.getElem?_eq_none (Nat.le_refl _)]; rfl
      rw [hpad] at hbit
      have hXb := getD_bd (padded_bytes pre (pre.length / 8 + 1)) (pre.length / 8)
      exact xor_val _ _ _ hXb.1 hXb.2 (by omega) hbit (by cases x <;> simp [bI])
  case done =>
    rintro D ys W hD rfl ⟨⟨v, hv, hrow, _⟩, hN, hB⟩ hK
    have hc := hv.cell
    have hcN := hN.cell
    gi_wp2
    gi_region
    all_goals gi_wp2
    all_goals
      refine ⟨by simp, .inl ⟨_, _, rfl, run_takeDeferred (w := W.drew) hK, ?_⟩⟩
      refine ⟨_, results_tmp2 rfl _ _ _, v, rfl, ownsRow_putObj hrow _ hK rfl, hB.trans ?_⟩
      exact (belowK_b (w := w) (Nat.le_refl _) W D _ _ (by simp at hD; omega) hK rfl rfl).trans (Below.refl _ _).drew
  case stop =>
    rintro D c pre W _ _ h _
    exact h.elim

theorem pack_any (A : Option Addr) (c : Nat) (cs : List (Int × Int)) (hlen : cs.length ≤ 4294967296) (hwf : WfCodes cs) (w : World) (hL : Reads w w.heap.size 2 A cs.length (codesV cs)) :
    Calls Tryd.prog 8 #[.slice A cs.length c] w fun e W' => ∃ v, e = .returned (.tuple #[v, .int .i64 (codesBits cs).length]) ∧
      W'.ownsRow w.heap.size 5 1 v (packB (codesBits cs)).length (bytesV (packB (codesBits cs))) ∧ Below w.heap.size w W' :=
  callsIn_wide.1 (pack_in 3 (by omega) A c cs hlen hwf w hL)
end Go.Proofs.YtijnldbbibgjcaaDoor
