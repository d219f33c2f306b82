/- BitsJoin as a call. -/
import Derived.Test.YtijnldbbibgjcaaDoorEachLaw
import Derived.Deep.RegionHeld3
import Derived.Deep.AppendLies
namespace Go.Proofs.YtijnldbbibgjcaaDoor
open Go.RowKit
open Go.Lib (numsL bytesOf HoldsBytes)

def joinC (bs : List Int) : List (Int × Int) := bs.map fun b => (b % 20, b * 771)
theorem joinC_wf (bs : List Int) (hb : AreBytes bs) : WfCodes (joinC bs) := by
  intro c hc
  obtain ⟨b, hm, rfl⟩ := List.mem_map.1 hc
  obtain ⟨h0, h1⟩ := hb b hm
  simp only [Lit.wf, IntKind.min, IntKind.max, IntKind.signed, IntKind.bits]
  simp; omega
theorem joinC_length (bs : List Int) : (joinC bs).length = bs.length := by simp [joinC]
theorem joinC_snoc (bs : List Int) (i : Nat) (b : Int) (h : bs[i]? = some b) : codesV (joinC (bs.take (i + 1))) = codesV (joinC (bs.take i)) ++ [.int .i64 (b % 20), .int .i64 (b * 771)] := by
  rw [List.take_add_one, h]
  simp [joinC, codesV, codeV]
theorem own_far {w : World} {base : Nat} {e : TypeId} {size n : Nat} {v : Value} {xs : List Value} (h : w.ownsRow base e size v n xs) {p : Nat} (hp : p < base) : v.ownBlock ≠ some p := by
  rcases h.2 with ⟨rfl, rfl⟩ | ⟨g, cap, cur, rfl, hg, _⟩
  · simp [Value.ownBlock]
  · simp [Value.ownBlock]; omega
theorem own_form {w : World} {base : Nat} {e : TypeId} {size n : Nat} {v : Value} {xs : List Value} (h : w.ownsRow base e size v n xs) : ∃ A c, v = .slice A n c ∧ n ≤ c ∧ c ≤ maxLen := by
  rcases h.2 with ⟨rfl, rfl⟩ | ⟨g, cap, cur, rfl, _, _, h1, h2, _⟩
  · exact ⟨none, 0, rfl, Nat.le_refl _, by unfold maxLen; omega⟩
  · exact ⟨_, _, rfl, h1, h2⟩
theorem sizeOf25 (w : World) : (Go.sizeOf 25).run Tryd.prog w = .ok 2 w := by kernel_rfl
def headA (A : Option Addr) (c : Nat) : Option Addr := if c = 0 then A else A.map (·.add 0)
def tailA (A : Option Addr) (c k : Nat) : Option Addr := if c = k then A else A.map (·.add (k * 2))
theorem run_head (A : Option Addr) (n c k : Nat) (hk : k ≤ c) (W : World) : (Instr.slice 23 (.slice A n c) none (some (.int .i64 (k : Int))) none).run Tryd.prog W = .ok (.slice (headA A c) k c) W := by
  have ht' : Tryd.prog.underlying 23 = some (.slice (Tryd.prog.elem 23)) := by simp [Program.elem, Tryd.underlying23]
  have he : Tryd.prog.elem 23 = 25 := by simp [Program.elem, Tryd.underlying23]
  rw [run_slice_h W 23 _ _ _ ht' .i64 _ (by omega) (by omega), he, sizeOf25]
  simp [Result.andThen, sliced, headA]
theorem run_tail (A : Option Addr) (n c k : Nat) (hk : k ≤ n) (W : World) : (Instr.slice 23 (.slice A n c) (some (.int .i64 (k : Int))) none none).run Tryd.prog W = .ok (.slice (tailA A c k) (n - k) (c - k)) W := by
  have ht' : Tryd.prog.underlying 23 = some (.slice (Tryd.prog.elem 23)) := by simp [Program.elem, Tryd.underlying23]
  have he : Tryd.prog.elem 23 = 25 := by simp [Program.elem, Tryd.underlying23]
  rw [run_slice_l W 23 _ _ _ ht' .i64 _ (by omega) (by omega), he, sizeOf25]
  simp [Result.andThen, sliced, tailA]
theorem Reads.head {w : World} {B size n k c : Nat} {A : Option Addr} {xs : List Value} (h : Reads w B size A n xs) (hk : k ≤ n) (hc : n ≤ c) : Reads w B size (headA A c) k (xs.take (k * size)) := by
  refine ⟨by rw [List.length_take, h.1, Nat.min_eq_left (Nat.mul_le_mul_right _ hk)], fun hn => ?_⟩
  obtain ⟨ad, rfl, hb, hcell⟩ := h.2 (by omega)
  unfold headA
  rw [if_neg (by omega)]
  refine ⟨ad.add 0, rfl, by rw [block_of_add]; exact hb, fun j u hu => ?_⟩
  rw [add_of_add, Nat.zero_add]
  have hj := (List.getElem?_eq_some_iff.1 hu).1
  rw [List.length_take] at hj
  rw [List.getElem?_take, if_pos (by omega)] at hu
  exact hcell _ u hu
theorem codesV_take (cs : List (Int × Int)) (k : Nat) (hk : k ≤ cs.length) : (codesV cs).take (k * 2) = codesV (cs.take k) := by
  have e : codesV cs = codesV (cs.take k) ++ codesV (cs.drop k) := by unfold codesV; rw [← List.flatMap_append, List.take_append_drop]
  have hl : (codesV (cs.take k)).length = k * 2 := by rw [codesV_length, List.length_take, Nat.min_eq_left hk]
  rw [e, ← hl, List.take_left]
theorem codesV_drop (cs : List (Int × Int)) (k : Nat) (hk : k ≤ cs.length) : (codesV cs).drop (k * 2) = codesV (cs.drop k) := by
  have e : codesV cs = codesV (cs.take k) ++ codesV (cs.drop k) := by unfold codesV; rw [← List.flatMap_append, List.take_append_drop]
  have hl : (codesV (cs.take k)).length = k * 2 := by rw [codesV_length, List.length_take, Nat.min_eq_left hk]
  rw [e, ← hl, List.drop_left]
theorem codesBits_split (cs : List (Int × Int)) (k : Nat) : (codesBits cs).length = (codesBits (cs.take k)).length + (codesBits (cs.drop k)).length := by
  rw [← List.length_append]; unfold codesBits; rw [← List.flatMap_append, List.take_append_drop]
theorem pack_n (A : Option Addr) (c n : Nat) (cs : List (Int × Int)) (hn : cs.length = n) (hlen : n ≤ 4294967296) (hwf : WfCodes cs) (w : World) {B : Nat} (hB : B ≤ w.heap.size) (hL : Reads w B 2 A n (codesV cs)) :
    Calls Tryd.prog 8 #[.slice A n c] w fun e W' => ∃ v cv, e = .returned (.tuple #[.slice v (packB (codesBits cs)).length cv, .int .i64 (codesBits cs).length]) ∧ (packB (codesBits cs)).length ≤ cv ∧ cv ≤ maxLen ∧
      W'.ownsRow w.heap.size 5 1 (.slice v (packB (codesBits cs)).length cv) (packB (codesBits cs)).length (bytesV (packB (codesBits cs))) ∧ Below w.heap.size w W' := by
  subst hn
  refine (pack_any A c cs hlen hwf w (hL.more hB)).mono ?_
  rintro e W' ⟨v, rfl, h1, h2⟩
  obtain ⟨a, cv, rfl, h3, h4⟩ := own_form h1
  exact ⟨a, cv, rfl, h3, h4, h1, h2⟩
theorem info25 : (Tryd.prog.info? 25).map (fun i => (i.zero, i.size, i.bytes)) = some (some (.agg #[.int .i64 0, .int .i64 0]), 2, 16) := by kernel_rfl

theorem join_walk (A : Option Addr) (len cap : Nat) (zs : List Int) (n : Int) (W : World) (h : IsRow .u8 W A len cap zs) (hn : (Lit.int .u8 n).wf = true) :
    Calls Tryd.prog 3 #[.slice A len cap, .int .u8 n] W fun e w' => e = .returned (.bool true) ∧ Below W.heap.size W w' := by
  obtain ⟨bs, hbl, hlc, hcm, hby, hR⟩ := row_reads h
  obtain ⟨n0, n1⟩ := bounds_u8 hn
  obtain ⟨ii, hi, hz0, hz1, hz2⟩ := info_parts info25
  clear hn h
  have hlm : len ≤ maxLen := by omega
  unfold maxLen at hcm hlm
  obtain ⟨B, hB⟩ : ∃ B, B = W.heap.size := ⟨_, rfl⟩
  rw [← hB]
  rw [← hB] at hR
  go_enter Tryd.func3, Tryd.ntmps3
  go_wp2_with fail
  go_loopw [5, 6] (fun l k (w : World) => ∃ i : Nat, i ≤ len ∧ i ≤ 60 ∧ k = .int .i64 i ∧ w.ownsRow B 25 2 l i (codesV (joinC (bs.take i))) ∧ Below B W w) (fun _ k _ => len - (intOf k).toNat)
  case atStart => exact ⟨0, by omega, by omega, rfl, World.ownsRow_nil _ _ _ _, Below.refl _ _⟩
  case round =>
    obtain ⟨i, hil, hi60, rfl, hown, hbw⟩ := hrel
    have hBw : B ≤ wr.heap.size := by have := hbw.size; omega
    have h3 : (i < len ∧ i < 60) ∨ (¬ i < len) ∨ (i < len ∧ ¬ i < 60) := by omega
    rcases h3 with ⟨hlt, hlt6⟩ | hend
    · · have hRw := hR.below hbw
        obtain ⟨ad, u, rfl, hadb, hx, hc⟩ := hRw.at_ hlt
        have hx' : bs[i]? = some (bs.getD i 0) := by rw [List.getD_eq_getElem?_getD, List.getElem?_eq_getElem (by omega)]; rfl
        obtain rfl : u = .int .u8 (bs.getD i 0) := by
          rw [bytesV, List.getElem?_map, hx'] at hx; simpa using hx.symm
        obtain ⟨g0, g1⟩ := getD_bd hby i
        have HS := Lib.hid (joinC_snoc bs i _ hx')
        have HL := Lib.hid hbl
        clear hbl hx hx' hRw
        generalize bs.getD i 0 = b at *
        have hfar := own_far hown (by rw [block_of_add]; exact hadb : (ad.add i).block < B)
        have hadl : (ad.add i).block < wr.heap.size := by rw [block_of_add]; omega
        have t0 : (0 : Int) ≤ (i : Int) := Int.natCast_nonneg _
        have t1 : (i : Int) < (len : Int) := by omega
        go_wp2_with fail
        go_region_held3 (fun w' : World => w'.cell? (ad.add i) = some (.int .u8 b))
          (first | go_keep | ((rw [hgrow.cell_far _ (by simp; omega) (Ne.symm hfar)]; assumption)))
          ((refine step_append_lies _ (by rfl) _ _ _ (by rfl) B 25 ii _ 2 16 Tryd.underlying23 hi hz0 hz1 hz2 rfl (by omega) _ i _ (by rfl) ((hown.alloc _).drew)
                ⟨wr.heap.size, 0, none⟩ 1 1 [Value.int .i64 (IntKind.i64.wrap (b.tmod 20)), Value.int .i64 (IntKind.i64.wrap (IntKind.i64.wrap b * 771))] (by rfl) (by rfl) (World.news_of_block (cs := #[Value.int .i64 (IntKind.i64.wrap (b.tmod 20)), .int .i64 (IntKind.i64.wrap (IntKind.i64.wrap b * 771))]) (t := 25) (fr := (0, 0)) (heap_alloc_new wr _)) (by simp [Value.oneCell'])
                (by omega) (by unfold maxLen; omega) (by omega) (by simp; omega) (wr.heap.size + 1) (by simp) ?_; intro gg cap w1 hown1 hgrow hat hlt))
        go_wp2_with fail
        go_round
        case rel =>
          refine ⟨i + 1, by omega, by omega, by go_num, ?_, ?_⟩
          · have e1 : IntKind.i64.wrap (b.tmod 20) = b % 20 := by rw [Int.tmod_eq_emod_of_nonneg g0, IntKind.wrap_i64]; omega
            have e2 : IntKind.i64.wrap (IntKind.i64.wrap b * 771) = b * 771 := by rw [IntKind.wrap_i64, IntKind.wrap_i64]; omega
            rw [HS.out, ← e1, ← e2]
            exact hown1
          · exact ((hbw.alloc hBw _).drew).grown hgrow (by simp; omega) (fun k hk => by
              rcases Nat.lt_or_ge k B with h | h
              · exact absurd hk (own_far hown h)
              · exact h)
        case measure => simp [intOf]; omega
    · obtain ⟨A', c', rfl, hic, hcm'⟩ := own_form hown
      unfold maxLen at hcm'
      obtain ⟨cs, hcs⟩ : ∃ cs, cs = joinC (bs.take i) := ⟨_, rfl⟩
      have hcl : cs.length = i := by rw [hcs, joinC_length, List.length_take]; omega
      have hwf : WfCodes cs := by rw [hcs]; exact joinC_wf _ (fun x hx => hby x (List.mem_of_mem_take hx))
      rw [← hcs] at hown
      have hRl := Reads.of_own hown
      have hb1 := codesBits_bd cs
      clear hown hcs hR hby
      have k0 : 0 ≤ n % ((i : Int) + 1) := Int.emod_nonneg _ (by omega)
      have k1 : n % ((i : Int) + 1) < (i : Int) + 1 := Int.emod_lt_of_pos _ (by omega)
      obtain ⟨k, hk⟩ : ∃ k : Nat, n % ((i : Int) + 1) = k := ⟨(n % ((i : Int) + 1)).toNat, by omega⟩
      have hki : k ≤ i := by omega
      clear k0 k1
      have hs1 := fun W => run_head A' i c' k (by omega) W
      have hs2 := fun W => run_tail A' i c' k hki W
      have hR1 := hRl.head hki hic
      have hR2 := hRl.cut hki hic
      rw [codesV_take cs k (by omega)] at hR1
      rw [codesV_drop cs k (by omega)] at hR2
      have hspl := codesBits_split cs k
      have hwf1 : WfCodes (cs.take k) := fun c hc => hwf c (List.mem_of_mem_take hc)
      have hwf2 : WfCodes (cs.drop k) := fun c hc => hwf c (List.mem_of_mem_drop hc)
      have hl1 : (cs.take k).length = k := by rw [List.length_take]; omega
      have hl2 : (cs.drop k).length = i - k := by rw [List.length_drop, hcl]
      have HL1 := Lib.hid hl1
      have HL2 := Lib.hid hl2
      have HC := Lib.hid hcl
      have HS := Lib.hid hspl
      rw [hcl] at hb1
      clear hl1 hl2 hcl hspl hbl
      generalize cs.take k = cs1 at *
      generalize cs.drop k = cs2 at *
      have hpl := packB_length (codesBits cs)
      have HP := Lib.hid hpl
      clear hpl
      rcases hend with hlt | ⟨hlt, hlt6⟩
      all_goals
        go_wp2_with fail
        refine (pack_n _ _ _ cs1 HL1.out (by omega) hwf1 _ (Nat.le_refl _) hR1).mono ?_
        rintro e w1 ⟨v1, c1, rfl, _, _, _, hB1⟩
        go_wp2_with fail
        refine (pack_n _ _ _ cs2 HL2.out (by omega) hwf2 _ hB1.size (hR2.below hB1)).mono ?_
        rintro e w2 ⟨v2, c2, rfl, _, _, _, hB2⟩
        have hB12 := hB1.trans (hB2.mono hB1.size)
        go_wp2_with fail
        refine (pack_n _ _ _ cs HC.out (by omega) hwf _ hB12.size (hRl.below hB12)).mono ?_
        rintro e w3 ⟨v3, c3, rfl, h30, h31, _, hB3⟩
        have hB13 := hB12.trans (hB3.mono hB12.size)
        go_wp2_with fail
        refine (pack_n none 0 0 [] rfl (by omega) (fun _ h => by cases h) _ (Nat.zero_le _) Reads.none_).mono ?_
        rintro e w4 ⟨v4, c4, rfl, _, _, _, hB4⟩
        have hB14 := hB13.trans (hB4.mono hB13.size)
        go_wp2_with fail
        have q1 := HS.out
        have q2 := HP.out
        have d1 : (((codesBits cs).length : Int) == ((codesBits cs1).length : Int) + ((codesBits cs2).length : Int)) = true := by simp; omega
        have d2 : (((packB (codesBits cs)).length : Int) == (((codesBits cs).length : Int) + 7) / 8) = true := by simp; omega
        have d3 : (packB (codesBits [])).length = 0 := rfl
        have d4 : (codesBits []).length = 0 := rfl
        have d5 : (codesBits cs1).length ≤ 1920 := by omega
        have d6 : (codesBits cs2).length ≤ 1920 := by omega
        rw [d3, d4]
        clear d3 d4 q1 q2
        generalize (codesBits cs).length = M at *
        generalize (codesBits cs1).length = M1 at *
        generalize (codesBits cs2).length = M2 at *
        generalize (packB (codesBits cs)).length = M3 at *
        refine (known_any _).mono ?_
        rintro e w5 ⟨rfl, hB5⟩
        have hB15 := hB14.trans (hB5.mono hB14.size)
        go_wp2_with fail
        go_ret
        exact ⟨rfl, hbw.trans (hB15.mono hBw)⟩
end Go.Proofs.YtijnldbbibgjcaaDoor
