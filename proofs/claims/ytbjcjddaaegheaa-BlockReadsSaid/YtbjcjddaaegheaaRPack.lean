/- ref12.Pack: the bytes of the bits of codes, and how many bits. -/
import Derived.Test.YtbjcjddaaegheaaBitsM
import Derived.Great.Walk
namespace Go.Proofs.Ytbjcjddaaegheaa
open Go.RowKit

theorem append_one {ops : Array Oper} {rest : List Oper} {o : Oper} {a : Act} {w : World} {Q : Exit → Act → World → Prop} {t e : TypeId} {z u : Value} {bytes : Nat} (hI : (Try.prog.info? e).map (fun i => (i.zero, i.size, i.bytes)) = some (some z, 1, bytes)) (hz1 : z.cells.size = 1)
    (ht : Try.prog.underlying t = some (.slice e)) (hgd : o.guard = none) (s x : Operand)
    (ho : o.op = .call { callee := .builtin .append, args := #[s, x], argTypes := #[t, t] }) (base : Nat) (v : Value) (n : Nat) (xs : List Value) (hs : a.eval s = v) (hown : w.ownsRow base e 1 v n xs)
    (g : Nat) (hx : a.eval x = .slice (some ⟨g, 0, none⟩) 1 1) (hB : Blk w g e #[u]) (hu : u.oneCell' = true) (hn : (n + 1) * bytes ≤ 140737488355328) (hn2 : n + 1 ≤ 140737488355328) (hbase : base ≤ w.heap.size)
    (h : ∀ v' w', w'.ownsRow base e 1 v' (n + 1) (xs ++ [u]) → w.grownBy w' v.ownBlock → wpList Try.prog ops Q rest (a.put o.dst v') w') : wpList Try.prog ops Q (o :: rest) a w := by
  obtain ⟨i, hi, hi2⟩ := Option.map_eq_some_iff.1 hI
  simp only [Prod.mk.injEq] at hi2
  obtain ⟨hz, hsz, hby⟩ := hi2
  refine wpList_append_any w hgd s x t ho base e i z 1 bytes ht hi hz hsz hby hz1 (by decide) v n xs hs hown (g + 1) (some ⟨g, 0, none⟩) 1 1 [u] hx ⟨rfl, fun _ => ⟨_, rfl, by simp, fun j u' hu' => ?_⟩⟩ (by simpa using hu) (by simp only [maxLen]; omega) hn hbase (fun v' w' h1 h2 _ => h v' w' h1 h2)
  rw [Addr.add_mid, hB.cell, Nat.zero_add]
  simpa using hu'
theorem topBits_take (V : Int) (n m : Nat) (h : m < n) : (topBits V n).take (n - m) = (topBits V n).take (n - (m + 1)) ++ [decide (V / 2 ^ m % 2 = 1)] := by
  induction n with
  | zero => omega
  | succ n ih =>
    by_cases e : m = n
    · subst e
      rw [show m + 1 - m = 0 + 1 by omega, show m + 1 - (m + 1) = 0 by omega, topBits]
      rfl
    · have := ih (by omega)
      rw [show n + 1 - m = (n - m) + 1 by omega, show n + 1 - (m + 1) = (n - (m + 1)) + 1 by omega, topBits, List.take_succ_cons, List.take_succ_cons, this, List.cons_append]
theorem info3 : (Try.prog.info? 3).map (fun i => (i.zero, i.size, i.bytes)) = some (some (.int .i64 0), 1, 8) := by kernel_rfl
theorem info5 : (Try.prog.info? 5).map (fun i => (i.zero, i.size, i.bytes)) = some (some (.int .u8 0), 1, 1) := by kernel_rfl

set_option maxHeartbeats 1000000 in
theorem rbits_any (A : Option Addr) (c : Nat) (cs : List (Int × Int)) (W : World) (hlen : cs.length ≤ 1048576) (hs : Sane cs) (hr : Reads W W.heap.size 2 A cs.length (rowCells cs)) :
    Calls Try.prog 26 #[.slice A cs.length c] W fun e w' => ∃ v, e = .returned v ∧ w'.ownsRow W.heap.size 3 1 v (codesB cs).length (bitV (codesB cs)) ∧ Below W.heap.size W w' := by
  go_enter Try.func26, Try.ntmps26
  go_wp2_with fail
  go_loopw [3, 4] (fun v3 v4 (w : World) => ∃ i : Nat, i ≤ cs.length ∧ v4 = .int .i64 i ∧ w.ownsRow W.heap.size 3 1 v3 (codesB (cs.take i)).length (bitV (codesB (cs.take i))) ∧ Below W.heap.size W w) (fun _ v4 _ => cs.length - (intOf v4).toNat)
  case atStart => exact ⟨0, by omega, rfl, World.ownsRow_nil _ _ _ _, Below.refl _ _⟩
  case round =>
    obtain ⟨i, hi, rfl, hown, hb⟩ := hrel
    by_cases hlt : i < cs.length
    · obtain ⟨⟨N, V⟩, hcd⟩ : ∃ cd, cs[i]? = some cd := ⟨_, List.getElem?_eq_getElem hlt⟩
      obtain ⟨n0, n1, v0, v1⟩ := hs _ (List.mem_of_getElem? hcd)
      simp only at n0 n1 v0 v1
      obtain ⟨n, rfl⟩ := Int.eq_ofNat_of_zero_le n0
      have hrw := hr.below hb
      obtain ⟨ad, rfl, hbl, hcells⟩ := hr.2 (by omega)
      have c1 := hcells _ _ (rowCells_at cs i _ hcd).1
      have c2 := hcells _ _ (rowCells_at cs i _ hcd).2
      rw [← hb.cell (by rw [block_of_add]; exact hbl)] at c1
      have hsn := Lib.hid (codesB_snoc cs i _ hcd)
      have hn32 : (codesB (cs.take i)).length ≤ 32 * i := by
        have := codesB_le (cs.take i) (fun c hc => hs c (List.mem_of_mem_take hc))
        rw [List.length_take] at this; omega
      obtain ⟨B0, hB0⟩ : ∃ B0, B0 = codesB (cs.take i) := ⟨_, rfl⟩
      rw [← hB0] at hown hn32 hsn
      simp only [codeB, Int.toNat_natCast] at hsn
      have c2g : ∀ w : World, Below W.heap.size W w → w.cell? ((ad.add (i * 2)).add 1) = some (.int .i64 V) := fun w h => by
        rw [add_of_add, h.cell (by rw [block_of_add]; exact hbl)]; exact c2
      have HC2 := Lib.hid c2g
      clear hcells hcd hB0 c2 c2g hrw hr
      go_wp2_with fail
      have hmm : max (0 : Int) (min (n : Int) 32) = n := by omega
      rw [hmm]
      generalize wr = wo at *
      go_loopw [3, 6] (fun v3 v6 (w : World) => ∃ k : Nat, k ≤ n ∧ v6 = .int .i64 ((k : Int) - 1) ∧ w.ownsRow W.heap.size 3 1 v3 (B0 ++ (topBits V n).take (n - k)).length (bitV (B0 ++ (topBits V n).take (n - k))) ∧ Below W.heap.size W w) (fun _ v6 _ => (intOf v6 + 1).toNat)
      case atStart => exact ⟨n, by omega, by go_num, by simpa using hown, hb⟩
      case round =>
        clear hown hb c1
        obtain ⟨k, hk, rfl, hown, hb⟩ := hrel
        rcases k with _ | m
        · simp only [Nat.sub_zero] at hown
          rw [List.take_of_length_le (by rw [topBits_length]; omega), ← hsn.out] at hown
          have hneg : ¬ (0 : Int) ≤ ((0 : Nat) : Int) - 1 := by omega
          go_wp2_with fail
          go_roundw
          case rel => exact ⟨i + 1, by omega, by go_num, hown, hb⟩
          case measure => simp [intOf]; omega
        · obtain ⟨M, hM⟩ : ∃ M : Int, M = ((m + 1 : Nat) : Int) - 1 := ⟨_, rfl⟩
          have hMm : M = (m : Int) := by omega
          rw [← hM]
          clear hM
          subst hMm
          have hm32 : m < 32 := by omega
          have ht := topBits_take V n m (by omega)
          obtain ⟨T, hT⟩ : ∃ T, T = (topBits V n).take (n - (m + 1)) := ⟨_, rfl⟩
          rw [← hT] at hown ht
          have hTl : T.length ≤ 32 := by rw [hT, List.length_take, topBits_length]; omega
          have HT := Lib.hid ht
          have hand : bits .and .i64 (V / 2 ^ m) 1 = V / 2 ^ m % 2 := and_i1 _ (Int.ediv_nonneg v0 (by have := pow_pos_int m; omega)) (by have := Int.ediv_le_self (a := V) (2 ^ m) v0; omega)
          have c2 : wr.cell? ⟨(ad.add (i * 2)).block, (ad.add (i * 2)).off + 1, none⟩ = some (.int .i64 V) := HC2.out wr hb
          have HA := Lib.hid hand
          have hnb := Blk.new wr 3 #[.int .i64 (bI (decide (V / 2 ^ m % 2 = 1)))]
          have hown2 : (wr.alloc (.cells #[.int .i64 (bI (decide (V / 2 ^ m % 2 = 1)))] 3)).ownsRow W.heap.size 3 1 u3 (B0 ++ T).length (bitV (B0 ++ T)) := own_grown hown (World.grownBy_alloc _ _ none) (fun _ _ => by simp)
          have hb2 := hb.alloc hb.size (.cells #[.int .i64 (bI (decide (V / 2 ^ m % 2 = 1)))] 3)
          have hbl2 : (B0 ++ T).length ≤ 32 * i + 32 := by rw [List.length_append]; omega
          clear hT hown ht hand
          go_wp2_with (first | (rw [HA.out, ← bI_dec]; refine Great.wpList_buildSliceTo rfl 59 3 1 _ rfl wr.heap.size rfl (some 36) rfl Try.underlying59 #[.int .i64 (bI (decide (V / 2 ^ m % 2 = 1)))] (by kernel_rfl) ?_) | (refine append_one info3 rfl Try.underlying59 rfl (.tmp 26) (.tmp 36) rfl W.heap.size u3 (B0 ++ T).length (bitV (B0 ++ T)) rfl hown2 wr.heap.size rfl hnb rfl (by omega) (by omega) hb2.size ?_; intro v' w' hown3 hg3))
          have hb3 := below_own hown2 hg3 (Nat.le_refl _) hb2.size
          go_roundw
          case rel => exact ⟨m, by omega, rfl, by rw [HT.out, ← List.append_assoc, bitV_append, List.length_append]; exact hown3, hb2.trans hb3⟩
          case measure => simp [intOf]
    · obtain rfl : i = cs.length := by omega
      rw [List.take_length] at hown
      go_wp2_with fail
      go_ret
      exact ⟨_, rfl, hown, hb⟩
end Go.Proofs.Ytbjcjddaaegheaa
namespace Go.Proofs.Ytbjcjddaaegheaa
open Go.RowKit

/-- the value of the first so many bits of a byte -/
def headV (f : Nat → Bool) : Nat → Int
  | 0 => 0
  | n + 1 => 2 * headV f n + bI (f n)
theorem headV_bd (f : Nat → Bool) (n : Nat) : 0 ≤ headV f n ∧ headV f n < 2 ^ n := by
  induction n with
  | zero => simp [headV]
  | succ n ih => have := bI_bd (f n); simp only [headV, Int.pow_succ]; omega
theorem headV_8 (f : Nat → Bool) : headV f 8 = byteVal f := by
  simp only [headV, byteVal]; omega
theorem padded_next (bs : List Bool) (m : Nat) : padded bs (m + 1) = padded bs m ++ [byteVal fun k => bs.getD (8 * m + k) true] := by
  simp [padded, List.range_succ]
theorem bitV_at (bs : List Bool) (i : Nat) (h : i < bs.length) : (bitV bs)[i]? = some (.int .i64 (bI (bs.getD i true))) := by
  rw [bitV, List.getElem?_map, List.getElem?_eq_getElem h, List.getD_eq_getElem?_getD, List.getElem?_eq_getElem h]; rfl

theorem own_form {w : World} {base : Nat} {e : TypeId} {size n : Nat} {v : Value} {xs : List Value} (h : w.ownsRow base e size v n xs) : ∃ A c, v = .slice A n c ∧ Reads w w.heap.size size A n xs := by
  rcases h.2 with ⟨rfl, h0⟩ | ⟨g, cap, cur, rfl, _⟩
  · have hl := h.1
    rw [h0] at hl h ⊢
    exact ⟨none, 0, rfl, Reads.of_own (c := 0) h⟩
  · exact ⟨some ⟨g, 0, none⟩, cap, rfl, Reads.of_own (c := cap) h⟩
set_option maxHeartbeats 1000000 in
theorem rpack_any (A : Option Addr) (c : Nat) (cs : List (Int × Int)) (W : World) (hlen : cs.length ≤ 1048576) (hs : Sane cs) (hr : Reads W W.heap.size 2 A cs.length (rowCells cs)) :
    Calls Try.prog 17 #[.slice A cs.length c] W fun e w' => ∃ v, e = .returned (.tuple #[v, .int .i64 (codesB cs).length]) ∧ w'.ownsRow W.heap.size 5 1 v (packB (codesB cs)).length (bytesV (packB (codesB cs))) ∧ Below W.heap.size W w' := by
  have K26 := Lib.hid (rbits_any A c cs W hlen hs hr)
  have hl := codesB_le cs hs
  obtain ⟨B, hB⟩ : ∃ B, B = codesB cs := ⟨_, rfl⟩
  rw [← hB] at hl K26 ⊢
  have hl2 : B.length ≤ 33554432 := by omega
  clear hB hr hs hl
  go_enter Try.func17, Try.ntmps17
  go_wp2_with fail
  go_at_call 26
  refine K26.out.mono ?_
  rintro e w1 ⟨vb, rfl, hownB, hbe⟩
  clear K26
  go_wp2_with fail
  obtain ⟨Ab, cb, rfl, hrB⟩ := own_form hownB
  go_loopw [5, 6] (fun v5 v6 (w : World) => ∃ m : Nat, 8 * m < B.length + 8 ∧ v6 = .int .i64 ((8 * m : Nat) : Int) ∧ w.ownsRow w1.heap.size 5 1 v5 m (bytesV (padded B m)) ∧ Below w1.heap.size w1 w) (fun _ v6 _ => B.length + 8 - (intOf v6).toNat)
  case atStart => exact ⟨0, by omega, rfl, World.ownsRow_nil _ _ _ _, Below.refl _ _⟩
  case round =>
    obtain ⟨m, hm, rfl, hown, hb⟩ := hrel
    by_cases hlt : 8 * m < B.length
    · obtain ⟨i, hi⟩ : ∃ i, i = 8 * m := ⟨_, rfl⟩
      rw [← hi] at hlt ⊢
      have hnx := Lib.hid (padded_next B m)
      rw [← hi] at hnx
      obtain ⟨f, hf⟩ : ∃ f : Nat → Bool, f = fun k => B.getD (i + k) true := ⟨_, rfl⟩
      rw [← hf, ← headV_8] at hnx
      have HF := Lib.hid hf
      have HI := Lib.hid hi
      clear hf hi
      go_wp2_with fail
      go_loop [7, 8] (fun v7 v8 => ∃ k : Nat, k ≤ 8 ∧ v8 = .int .i64 k ∧ v7 = .int .i64 (headV f k)) (fun _ v8 => 8 - (intOf v8).toNat)
      case atStart => exact ⟨0, by omega, rfl, rfl⟩
      case round =>
        obtain ⟨k, hk, rfl, rfl⟩ := hrel
        obtain ⟨h0, h1⟩ := headV_bd f k
        have hp := pow_le_int k 8 hk
        by_cases hk8 : k < 8
        · have hp2 := pow_le_int k 7 (by omega)
          have hb0 := bI_bd (f k)
          have hst : headV f (k + 1) = 2 * headV f k + bI (f k) := rfl
          by_cases hin : i + k < B.length
          · obtain ⟨ad, u, rfl, _, hx, hc⟩ := (hrB.below hb).at_ hin
            rw [bitV_at B (i + k) hin] at hx
            injection hx with hx
            have hfk : B.getD (i + k) true = f k := by rw [HF.out]
            rw [hfk] at hx
            subst hx
            clear hfk
            go_wp2_with fail
            go_round
            case rel => exact ⟨k + 1, by omega, by go_num, by rw [hst]⟩
            case measure => simp [intOf]; omega
          · have hfk : f k = true := by rw [HF.out]; show B.getD (i + k) true = true; rw [List.getD_eq_getElem?_getD, List.getElem?_eq_none (by omega)]; rfl
            rw [hfk] at hst hb0
            have hst2 : headV f (k + 1) = 2 * headV f k + 1 := hst
            clear hfk hst
            go_wp2_with fail
            go_round
            case rel => exact ⟨k + 1, by omega, by go_num, by rw [hst2]⟩
            case measure => simp [intOf]; omega
        · obtain rfl : k = 8 := by omega
          have hnb := Blk.new wr 5 #[.int .u8 (headV f 8)]
          have hown2 : (wr.alloc (.cells #[.int .u8 (headV f 8)] 5)).ownsRow w1.heap.size 5 1 u5 m (bytesV (padded B m)) := own_grown hown (World.grownBy_alloc _ _ none) (fun _ _ => by simp)
          have hb2 := hb.alloc hb.size (.cells #[.int .u8 (headV f 8)] 5)
          have hi2 := HI.out
          clear hown
          go_wp2_with (refine append_one info5 rfl Try.underlying22 rfl (.tmp 38) (.tmp 41) rfl w1.heap.size u5 m (bytesV (padded B m)) rfl hown2 wr.heap.size rfl hnb rfl (by omega) (by omega) hb2.size ?_; intro v' w' hown3 hg3)
          have hb3 := below_own hown2 hg3 (Nat.le_refl _) hb2.size
          go_roundw
          case rel => exact ⟨m + 1, by omega, by go_num, by rw [hnx.out, bytesV, List.map_append]; exact hown3, hb2.trans hb3⟩
          case measure => simp [intOf]; omega
    · have hm2 : m = (B.length + 7) / 8 := by omega
      have hge : ¬ ((8 * m : Nat) : Int) < B.length := by omega
      obtain ⟨A5, c5, rfl, _⟩ := own_form hown
      have hpl : (packB B).length = m := by rw [packB_length]; omega
      have hpp : padded B m = packB B := by rw [packB, hm2]
      rw [hpp] at hown
      clear hm2 hpp
      go_wp2_with fail
      go_ret2
      exact ⟨_, rfl, own_base hown hbe.size, hbe.trans (hb.mono hbe.size)⟩
end Go.Proofs.Ytbjcjddaaegheaa
