/- The reference's Stuff and Extra, Unstuff of both sides, and the law's Row: what each yields. -/
import Derived.Test.YtijnldbbibgjcaaDoorEachLaw
namespace Go.Proofs.YtijnldbbibgjcaaDoor
open Go.RowKit
open Go.Lib (numsL bytesOf HoldsBytes)

theorem own_far {w : World} {base : Nat} {e : TypeId} {size n : Nat} {v : Value} {xs : List Value} (h : w.ownsRow base e size v n xs) {p : Nat} (hp : p < base) : v.ownBlock ≠ some p := by
  rcases h.2 with ⟨rfl, rfl⟩ | ⟨g, cap, cur, rfl, hg, _⟩
  · simp [Value.ownBlock]
  · simp [Value.ownBlock]; omega
theorem own_form {w : World} {base : Nat} {e : TypeId} {size n : Nat} {v : Value} {xs : List Value} (h : w.ownsRow base e size v n xs) : ∃ A c, v = .slice A n c ∧ n ≤ c ∧ c ≤ maxLen := by
  rcases h.2 with ⟨rfl, rfl⟩ | ⟨g, cap, cur, rfl, _, _, h1, h2, _⟩
  · exact ⟨none, 0, rfl, Nat.le_refl _, by unfold maxLen; omega⟩
  · exact ⟨_, _, rfl, h1, h2⟩
theorem stuffU_snoc (l : List UInt8) (i : Nat) (x : UInt8) (h : l[i]? = some x) : stuffU (l.take (i + 1)) = stuffU (l.take i) ++ stuffU [x] := by
  rw [List.take_add_one, h, stuffU_append]; rfl
theorem numsV_append (a b : List UInt8) : bytesV (numsL (a ++ b)) = bytesV (numsL a) ++ bytesV (numsL b) := by simp [bytesV, numsL]
theorem stuffU_take_le (l : List UInt8) (i : Nat) : (stuffU (l.take i)).length ≤ 2 * l.length := by
  rw [stuffU_length]
  have h1 := List.count_le_length (a := (255 : UInt8)) (l := l.take i)
  have h2 := List.length_take_le i l
  have h3 : (l.take i).length ≤ l.length := by rw [List.length_take]; omega
  omega
theorem below_append {B : Nat} {W w w1 : World} {e : TypeId} {size n : Nat} {v : Value} {xs : List Value} (hb : Below B W w) (hB : B ≤ w.heap.size) (o : Obj) (hown : w.ownsRow B e size v n xs) (hg : (w.alloc o).grownBy w1 v.ownBlock) : Below B W w1 :=
  (hb.alloc hB o).grown hg (by simp; omega) (fun k hk => by
    rcases Nat.lt_or_ge k B with h | h
    · exact absurd hk (own_far hown h)
    · exact h)

theorem grown_cell {w w1 : World} {o : Obj} {row : Option Nat} (hg : (w.alloc o).grownBy w1 row) {p : Addr} {u : Value} (hc : w.cell? p = some u) (hne : row ≠ some p.block) : w1.cell? p = some u := by
  have hp := World.block_lt_of_cell? w _ hc
  rw [hg.cell_far p (by simp; omega) (Ne.symm hne), World.cell?_alloc_lt w _ _ hp]; exact hc

theorem rstuff_any (A : Option Addr) (c : Nat) (l : List UInt8) (W : World) (h : HoldsBytes W (.slice A l.length c) l) (hlen : l.length ≤ 1099511627776) :
    Calls Tryd.prog 18 #[.slice A l.length c] W fun e w' => ∃ A' c', e = .returned (.slice A' (stuffU l).length c') ∧ HoldsBytes w' (.slice A' (stuffU l).length c') (stuffU l) ∧ Below W.heap.size W w' := by
  obtain ⟨ii, hi, hz0, hz1, hz2⟩ := info_parts info5
  have hR := reads_of_holds h
  clear h
  obtain ⟨B, hB⟩ : ∃ B, B = W.heap.size := ⟨_, rfl⟩
  rw [← hB]
  rw [← hB] at hR
  obtain ⟨len, hl⟩ : ∃ len, len = l.length := ⟨_, rfl⟩
  rw [← hl]
  rw [← hl] at hR hlen
  go_enter Tryd.func18, Tryd.ntmps18
  go_wp2_with fail
  go_loopw [3, 4] (fun o k (w : World) => ∃ i : Nat, i ≤ len ∧ k = .int .i64 i ∧ w.ownsRow B 5 1 o (stuffU (l.take i)).length (bytesV (numsL (stuffU (l.take i)))) ∧ Below B W w) (fun _ k _ => len - (intOf k).toNat)
  case atStart => exact ⟨0, by omega, rfl, World.ownsRow_nil _ _ _ _, Below.refl _ _⟩
  case round =>
    obtain ⟨i, hil, rfl, hown, hbw⟩ := hrel
    have hBw : B ≤ wr.heap.size := by have := hbw.size; omega
    by_cases hlt : i < len
    · obtain ⟨ad, u, rfl, hadb, hx, hc⟩ := (hR.below hbw).at_ (k := i) hlt
      obtain ⟨x, hx', rfl⟩ := bytesV_at hx
      have hsn := stuffU_snoc l i x hx'
      have hle := stuffU_take_le l i
      obtain ⟨n, hn⟩ : ∃ n, n = (stuffU (l.take i)).length := ⟨_, rfl⟩
      rw [← hn] at hown hle
      have HS := Lib.hid hsn
      have HL := Lib.hid hl
      have HN := Lib.hid hn
      clear hsn hl hn hx hx'
      have t0 : (0 : Int) ≤ (i : Int) := Int.natCast_nonneg _
      have t1 : (i : Int) < (len : Int) := by omega
      have hn2 : n ≤ 2 * len := by have := HL.out; omega
      clear hle
      have hfar := own_far hown hadb
      have e1 : (stuffU [x]).length = if x = 255 then 2 else 1 := by unfold stuffU; by_cases h : x = 255 <;> simp [h]
      by_cases h255 : x = 255
      · subst h255
        go_wp2_with (first | (at_builtin; (refine wpList_append_lies _ rfl _ _ 22 rfl B 5 ii _ 1 1 Tryd.underlying22 hi hz0 hz1 hz2 rfl (by omega) _ n _ rfl (hown.alloc _) ⟨wr.heap.size, 0, none⟩ 1 1 [Value.int .u8 255] rfl rfl (World.news_of_block (cs := #[Value.int .u8 255]) (t := 5) (fr := (0, 0)) (heap_alloc_new wr _)) (by simp [Value.oneCell']) (by omega) (by unfold maxLen; omega) (by omega) (by simp; omega) (wr.heap.size + 1) (by simp) ?_; intro gg cap w1 hown1 hgrow hat hlt2; have hc1 := grown_cell hgrow hc (by rw [block_of_add]; exact hfar); have hb1 := below_append hbw hBw _ hown hgrow; have hBw1 : B ≤ w1.heap.size := (by have := hb1.size; omega))) | (at_builtin; go_loud (refine wpList_append_lies _ rfl _ _ 22 rfl B 5 ii _ 1 1 Tryd.underlying22 hi hz0 hz1 hz2 rfl (by omega) _ (n + 1) _ rfl (hown1.alloc _) ⟨w1.heap.size, 0, none⟩ 1 1 [Value.int .u8 0] rfl rfl (World.news_of_block (cs := #[Value.int .u8 0]) (t := 5) (fr := (0, 0)) (heap_alloc_new w1 _)) (by simp [Value.oneCell']) (by omega) (by unfold maxLen; omega) (by omega) (by simp; omega) (w1.heap.size + 1) (by simp) ?_; intro gg2 cap2 w2 hown2 hgrow2 hat2 hlt3; have hb2 := below_append hb1 hBw1 _ hown1 hgrow2)))
        go_round
        case rel => 
          refine ⟨i + 1, by omega, by go_num, ?_, hb2⟩
          rw [HS.out, numsV_append, List.length_append, ← HN.out, e1]
          simpa [stuffU, bytesV, numsL] using hown2
        case measure => simp [intOf]; omega
      · have hd : ((x.toNat : Int) == 255) = false := by
          simp; intro e; apply h255; apply UInt8.toNat_inj.1; simp; omega
        go_wp2_with (at_builtin; (refine wpList_append_lies _ rfl _ _ 22 rfl B 5 ii _ 1 1 Tryd.underlying22 hi hz0 hz1 hz2 rfl (by omega) _ n _ rfl (hown.alloc _) ⟨wr.heap.size, 0, none⟩ 1 1 [Value.int .u8 (x.toNat : Int)] rfl rfl (World.news_of_block (cs := #[Value.int .u8 (x.toNat : Int)]) (t := 5) (fr := (0, 0)) (heap_alloc_new wr _)) (by simp [Value.oneCell']) (by omega) (by unfold maxLen; omega) (by omega) (by simp; omega) (wr.heap.size + 1) (by simp) ?_; intro gg cap w1 hown1 hgrow hat hlt2; have hc1 := grown_cell hgrow hc (by rw [block_of_add]; exact hfar); have hb1 := below_append hbw hBw _ hown hgrow; have hBw1 : B ≤ w1.heap.size := (by have := hb1.size; omega)))
        go_round
        case rel => 
          refine ⟨i + 1, by omega, by go_num, ?_, hb1⟩
          rw [HS.out, numsV_append, List.length_append, ← HN.out, e1]
          simpa [stuffU, bytesV, numsL, h255] using hown1
        case measure => simp [intOf]; omega
    · obtain rfl : i = len := by omega
      have hall : l.take i = l := List.take_of_length_le (by omega)
      rw [hall] at hown
      obtain ⟨A', c', rfl, h1, h2⟩ := own_form hown
      have hv := holds_own hown
      go_wp2_with fail
      go_ret
      exact ⟨A', c', rfl, hv, hbw⟩
end Go.Proofs.YtijnldbbibgjcaaDoor
