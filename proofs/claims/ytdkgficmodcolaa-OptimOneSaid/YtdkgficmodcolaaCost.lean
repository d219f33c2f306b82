/- Cost: how many bits all have, by a table. -/
import Derived.Test.YtdkgficmodcolaaHCodes
import Derived.Test.YtdkgficmodcolaaSizesW
namespace Go.Proofs.Ytdkgficmodcolaa
open Go.RowKit

theorem codeOf_cases (vs : List Int) (pre : List (Nat × Nat × Nat)) (v : Nat) : codeOf vs pre v = (0, 0) ∨ ∃ e ∈ pre, vs.getD e.1 0 = (v : Int) ∧ codeOf vs pre v = (e.2.1, e.2.2) := by
  unfold codeOf
  rw [← List.foldr_reverse]
  have : ∀ l : List (Nat × Nat × Nat), l.foldr (fun x f (v : Nat) => if vs.getD x.1 0 = (v : Int) then (x.2.1, x.2.2) else f v) (fun _ => (0, 0)) v = ((0, 0) : Nat × Nat) ∨ ∃ e ∈ l, vs.getD e.1 0 = (v : Int) ∧ l.foldr (fun x f (v : Nat) => if vs.getD x.1 0 = (v : Int) then (x.2.1, x.2.2) else f v) (fun _ => (0, 0)) v = (e.2.1, e.2.2) := by
    intro l
    induction l with
    | nil => exact .inl rfl
    | cons x l ih =>
      simp only [List.foldr_cons]
      by_cases h : vs.getD x.1 0 = (v : Int)
      · exact .inr ⟨x, List.mem_cons_self, h, by rw [if_pos h]⟩
      · rw [if_neg h]
        rcases ih with h1 | ⟨e, he, h1, h2⟩
        · exact .inl h1
        · exact .inr ⟨e, List.mem_cons_of_mem _ he, h1, h2⟩
  rcases this pre.reverse with h | ⟨e, he, h1, h2⟩
  · exact .inl h
  · exact .inr ⟨e, List.mem_reverse.1 he, h1, h2⟩
theorem codesF_bd (ct vs : List Int) (hct : ct.length = 16) (v : Nat) : (codesF ct vs v).1 ≤ 16 := by
  by_cases hck : checkS ct vs = true
  · have hgood : ∀ x ∈ ct, 0 ≤ x ∧ x ≤ 255 := Classical.byContradiction fun h => by rw [checkS_bad ct vs h] at hck; cases hck
    obtain ⟨cn, rfl, hcl, hcb⟩ := natsI_of hgood
    rw [codesF_yes cn vs hck]
    rcases codeOf_cases vs (laidC cn 0 0 0) v with h | ⟨e, he, _, h⟩
    · rw [h]; simp
    · rw [h]
      obtain ⟨m1, m2, _, _⟩ := laidC_mem he
      simp only
      omega
  · rw [codesF_no ct vs (by simpa using hck)]; simp
/-- what Cost gives: r -/
structure CostR (N : Nat → Nat) (ws : List Int) (r : Int) : Prop where
  all : (∀ v, v < 256 → 0 < ws.getD v 0 → N v ≠ 0) → r = sm (fun v => ws.getD v 0 * (N v : Int)) 256
  no : (∃ v, v < 256 ∧ 0 < ws.getD v 0 ∧ N v = 0) → r = -1
theorem size38b (f : Nat → Nat × Nat) : (Try.prog.info? 38).map (·.size) = some (codeC f).size := size38 f
set_option maxRecDepth 100000 in
set_option maxHeartbeats 1600000 in
theorem cost_any (ct vs : List Int) (A : Option Addr) (n c : Nat) (A2 : Option Addr) (len c2 : Nat) (l : List Int) (W : World) (hct : ct.length = 16) (hw : ∀ x ∈ ct, (Lit.int .i64 x).wf = true) (hvl : vs.length = n) (hvb : AreBytes vs) (hr : Reads W W.heap.size 1 A n (bytesV vs)) (hn : n ≤ 9223372036854775807)
    (hlen : l.length = len) (hwl : WfInts l) (hr2 : Reads W W.heap.size 1 A2 len (l.map (Value.int .i64))) (hl : len ≤ 9223372036854775807) :
    Calls Try.prog 12 #[.agg (tabCells ct (.slice A n c)), .slice A2 len c2] W fun e w' => ∃ r, e = .returned (.int .i64 r) ∧ CostR (fun v => (codesF ct vs v).1) (weightsS l) r ∧ Below W.heap.size W w' := by
  have KC := Lib.hid (fun w (h : Below W.heap.size W w) => (callsIn_wide (n := 4)).1 (hcodes_in 4 (by omega) ct vs A n c w hct hw hvl hvb ((hr.below h).more h.size) hn))
  have KW := Lib.hid (fun w (h : Below W.heap.size W w) => weights_any A2 c2 len l w hlen hwl ((hr2.below h).more h.size) hl)
  have hfb := codesF_bd ct vs hct
  have hwb := weightsS_bd l
  have hsz := tabCells_size ct (.slice A n c) hct
  have hzc : ∀ w, (zeroValue 38).run Try.prog w = .ok (.agg (codeC fun _ => (0, 0))) w := fun w => by rw [codeC_zero]; exact zero38 w
  obtain ⟨zc, hzc'⟩ : ∃ zc, zc = codeC (fun _ => (0, 0)) := ⟨_, rfl⟩
  rw [← hzc'] at hzc
  have hos : ∀ f, zc.size = (codeC f).size := fun f => by rw [hzc', codeC_size, codeC_size]
  obtain ⟨f, hf⟩ : ∃ f, f = codesF ct vs := ⟨_, rfl⟩
  rw [← hf] at KC hfb ⊢
  have hwl2 := weightsS_len l
  obtain ⟨ws, hws⟩ : ∃ ws, ws = weightsS l := ⟨_, rfl⟩
  rw [← hws] at KW hwb hwl2 ⊢
  obtain ⟨cells, hcells⟩ : ∃ cells, cells = tabCells ct (.slice A n c) := ⟨_, rfl⟩
  rw [← hcells] at KC hsz ⊢
  have hB := Blk.new W 30 cells
  have hbe : Below W.heap.size W (W.alloc (.cells cells 30)) := (Below.refl _ _).alloc (Nat.le_refl _) _
  have hi30 : (Try.prog.info? 30).map (·.size) = some cells.size := by rw [hsz]; kernel_rfl
  have hs38 := size38 f
  have ho38 := codeC_one f
  have HOS := Lib.hid hos
  have HFB := Lib.hid hfb
  have HWB := Lib.hid hwb
  have HWL := Lib.hid hwl2
  have HO38 := Lib.hid ho38
  clear hzc' hf hws hcells hr hr2 hw hwl hct hvl hvb hos hfb hwb hwl2 ho38 hlen hsz
  go_enter Try.func12, Try.ntmps12
  go_wp2_with (first
    | (refine wpList_load_blk rfl 30 (.tmp 2) rfl W.heap.size rfl 30 _ _ hB Try.underlying30 rfl hi30 ?_)
    | (go_at_call 14
       refine (KC.out _ hbe).mono ?_
       rintro e w2 ⟨rfl, hb2⟩
       have hz : Blk (w2.alloc (.cells zc 38)) w2.heap.size 38 zc := Blk.new w2 38 zc
       have hbe2 := hbe.trans (hb2.mono hbe.size))
    | (refine wpList_store_blk rfl 38 (.tmp 6) (.tmp 10) rfl w2.heap.size rfl 38 _ _ rfl hz hs38 (HOS.out _) HO38.out ?_
       intro w5 hR5 hg5 hs5
       have hbe5 := (hbe2.alloc hbe2.size (.cells zc 38)).grown hg5 (hbe2.alloc hbe2.size (.cells zc 38)).size (fun k e => by injection e with e; have := hbe2.size; omega)
       clear hs5)
    | (go_at_call 20
       refine (KW.out _ hbe5).mono ?_
       rintro e w6 ⟨rfl, hb6⟩))
  have hR6 := hR5.below hb6 hR5.lt
  have hbe6 := hbe5.trans (hb6.mono hbe5.size)
  have HR6 := Lib.hid hR6
  have HBE6 := Lib.hid hbe6
  clear hb6 hbe5 hg5 hR5 hz hbe2 hb2 hB hbe hi30 hs38 hzc HOS HO38 KW KC hR6 hbe6
  generalize w2.heap.size = g at *
  clear w2 w5
  go_loopw [5, 7, 8, 13] (fun v5 _ _ v13 (w : World) => ∃ (i : Nat) (s : Int), i ≤ 256 ∧ v13 = .int .i64 i ∧ v5 = .int .i64 s ∧ s = sm (fun v => ws.getD v 0 * ((f v).1 : Int)) i ∧ (∀ v, v < i → 0 < ws.getD v 0 → (f v).1 ≠ 0) ∧ 0 ≤ s ∧ s ≤ 16777216 * i ∧ w = w6) (fun _ _ _ v13 _ => 256 - (intOf v13).toNat)
  case atStart => exact ⟨0, 0, by omega, rfl, rfl, rfl, fun v hv => by omega, by omega, by omega, rfl⟩
  case round =>
    obtain ⟨i, s, hi, rfl, rfl, hs, hall, s0, s1, rfl⟩ := hrel
    have HSM := Lib.hid hs
    have HALL := Lib.hid hall
    clear hs hall
    by_cases hlt : i < 256
    · obtain ⟨x, hx⟩ : ∃ x, x = ws.getD i 0 := ⟨_, rfl⟩
      have HIX : Hid (∀ (a : Act) (w : World) (o : Oper), o.op = .index 50 (.tmp 12) (.tmp 13) → a.eval (.tmp 12) = .agg (intsC ws) → a.eval (.tmp 13) = .int .i64 i → (execOp a.eval o).run Try.prog w = .ok (.value (.int .i64 x)) w) := Lib.hid (fun a w o h1 h2 h3 => by rw [hx]; exact run_index50 _ _ h1 ws i hlt HWL.out h2 h3)
      have c1 : wr.cell? ⟨g, i * 2, none⟩ = some (.int .i64 (f i).1) := by rw [HR6.out.cell]; exact codeC_n f i hlt
      obtain ⟨x0, x1⟩ := HWB.out i
      have n1 := HFB.out i
      rw [← hx] at x0 x1
      obtain ⟨m, hm⟩ : ∃ m, m = (f i).1 := ⟨_, rfl⟩
      rw [← hm] at c1 n1
      have hp0 : 0 ≤ x * (m : Int) := Int.mul_nonneg x0 (by omega)
      have hp1 : x * (m : Int) ≤ 16777216 := by
        have := Int.mul_le_mul x1 (Int.ofNat_le.2 n1) (by omega) (by decide)
        exact Int.le_trans this (by decide)
      have HX := Lib.hid hx
      have HM := Lib.hid hm
      clear hx hm
      by_cases hpos : 0 < x
      · by_cases hz : m = 0
        · subst hz
          go_wp2_with (refine wpList_ran rfl (.int .i64 x) (HIX.out _ _ _ rfl rfl rfl) ?_)
          go_ret
          exact ⟨-1, rfl, ⟨fun h => absurd HM.out.symm (h i hlt (by rw [← HX.out]; exact hpos)), fun _ => rfl⟩, HBE6.out⟩
        · have hz1 : ((m : Int) == 0) = false := by simp; omega
          go_wp2_with (refine wpList_ran rfl (.int .i64 x) (HIX.out _ _ _ rfl rfl rfl) ?_)
          go_roundw
          case rel => exact ⟨i + 1, s + x * m, by omega, by go_num, rfl, by rw [sm, HSM.out, HX.out, HM.out], fun v hv hw => by
            by_cases e : v = i
            · subst e; rw [← HM.out]; exact hz
            · exact HALL.out v (by omega) hw, by omega, by omega, trivial⟩
          case measure => simp [intOf]; omega
      · have hx0 : x = 0 := by omega
        subst hx0
        have e0 : (0 : Int) * (m : Int) = 0 := by simp
        go_wp2_with (refine wpList_ran rfl (.int .i64 0) (HIX.out _ _ _ rfl rfl rfl) ?_)
        go_roundw
        case rel => exact ⟨i + 1, s, by omega, by go_num, by go_num, by rw [sm, ← HX.out, Int.zero_mul, Int.add_zero]; exact HSM.out, fun v hv hw => by
          by_cases e : v = i
          · subst e; rw [← HX.out] at hw; exact absurd hw (by decide)
          · exact HALL.out v (by omega) hw, by omega, by omega, trivial⟩
        case measure => simp [intOf]; omega
    · obtain rfl : i = 256 := by omega
      go_wp2_with fail
      go_ret
      exact ⟨s, rfl, ⟨fun _ => HSM.out, fun ⟨v, h1, h2, h3⟩ => absurd h3 (HALL.out v h1 h2)⟩, HBE6.out⟩
end Go.Proofs.Ytdkgficmodcolaa
