/- The way back, of both sides; the reference's Extra. -/
import Derived.Test.YtijnldbbibgjcaaDoorRef
namespace Go.Proofs.YtijnldbbibgjcaaDoor
open Go.RowKit
open Go.Lib (numsL bytesOf HoldsBytes)

theorem rextra_any (A : Option Addr) (c : Nat) (l : List UInt8) (w : World) (h : HoldsBytes w (.slice A l.length c) l) (hlen : l.length ≤ 1099511627776) :
    Calls Tryd.prog 19 #[.slice A l.length c] w fun e w' => e = .returned (.int .i64 (l.count 255)) ∧ Below w.heap.size w w' := by
  have hc := List.count_le_length (a := (255 : UInt8)) (l := l)
  have hs := stuffU_length l
  obtain ⟨C, hC⟩ : ∃ C, C = l.count 255 := ⟨_, rfl⟩
  rw [← hC]
  rw [← hC] at hc hs
  clear hC
  go_enter Tryd.func19, Tryd.ntmps19
  go_wp2_with fail
  refine (rstuff_any A c l w h hlen).mono ?_
  rintro e w' ⟨A', c', rfl, _, hb⟩
  have hs2 : (((stuffU l).length : Int) - (l.length : Int)) = (C : Int) := by omega
  generalize (stuffU l).length = S at *
  have HS := Lib.hid hs
  clear hs
  go_wp2_with fail
  go_ret
  exact ⟨rfl, hb⟩

def unst : List UInt8 → List UInt8 × Nat
  | [] => ([], 0)
  | [x] => if x = 255 then ([], 0) else ([x], 1)
  | x :: y :: t => if x = 255 then (if y = 0 then (255 :: (unst t).1, (unst t).2 + 2) else ([], 0)) else (x :: (unst (y :: t)).1, (unst (y :: t)).2 + 1)
theorem unst_plain (x : UInt8) (t : List UInt8) (h : x ≠ 255) : unst (x :: t) = (x :: (unst t).1, (unst t).2 + 1) := by
  cases t with
  | nil => simp [unst, h]
  | cons y t => simp [unst, h]
theorem unst_pair (t : List UInt8) : unst (255 :: 0 :: t) = (255 :: (unst t).1, (unst t).2 + 2) := by simp [unst]
theorem unst_end (t : List UInt8) (h : ∀ y s, t = y :: s → y ≠ 0) : unst (255 :: t) = ([], 0) := by
  cases t with
  | nil => simp [unst]
  | cons y s => simp [unst, h y s rfl]
theorem drop_at (l : List UInt8) (i : Nat) (x : UInt8) (h : l[i]? = some x) : l.drop i = x :: l.drop (i + 1) := by
  have hi := (List.getElem?_eq_some_iff.1 h).1
  rw [List.drop_eq_getElem_cons hi, List.getElem?_eq_getElem hi] at *
  rw [Option.some.inj h]

theorem unstuff_any (A : Option Addr) (c : Nat) (l : List UInt8) (W : World) (h : HoldsBytes W (.slice A l.length c) l) (hlen : l.length ≤ 1099511627776) :
    Calls Tryd.prog 15 #[.slice A l.length c] W fun e w' => ∃ v, e = .returned (.tuple #[v, .int .i64 (unst l).2]) ∧ HoldsBytes w' v (unst l).1 ∧ Below W.heap.size W w' := by
  obtain ⟨ii, hi, hz0, hz1, hz2⟩ := info_parts info5
  have hR := reads_of_holds h
  clear h
  obtain ⟨B, hB⟩ : ∃ B, B = W.heap.size := ⟨_, rfl⟩
  rw [← hB]
  rw [← hB] at hR
  obtain ⟨len, hl⟩ : ∃ len, len = l.length := ⟨_, rfl⟩
  rw [← hl]
  rw [← hl] at hR hlen
  go_enter Tryd.func15, Tryd.ntmps15
  go_wp2_with fail
  go_step3; go_wp2_with fail; go_step3; go_wp2_with fail
  go_loopw [4, 5] (fun o k (w : World) => ∃ (i : Nat) (acc : List UInt8), i ≤ len ∧ acc.length ≤ i ∧ k = .int .i64 i ∧ w.ownsRow B 5 1 o acc.length (bytesV (numsL acc)) ∧ Below B W w ∧ acc ++ (unst (l.drop i)).1 = (unst l).1 ∧ i + (unst (l.drop i)).2 = (unst l).2) (fun _ k _ => len - (intOf k).toNat)
  case atStart => exact ⟨0, [], by omega, by simp, rfl, World.ownsRow_nil _ _ _ _, Below.refl _ _, rfl, by simp⟩
  case round =>
    obtain ⟨i, acc, hil, hai, rfl, hown, hbw, hp, hq⟩ := hrel
    have hBw : B ≤ wr.heap.size := by have := hbw.size; omega
    by_cases hlt : i < len
    · obtain ⟨ad, u, rfl, hadb, hx, hc⟩ := (hR.below hbw).at_ (k := i) hlt
      obtain ⟨x, hx', rfl⟩ := bytesV_at hx
      have hdr := drop_at l i x hx'
      have HP := Lib.hid hp
      have HQ := Lib.hid hq
      have HL := Lib.hid hl
      have HD := Lib.hid hdr
      clear hp hq hl hdr hx hx'
      have t0 : (0 : Int) ≤ (i : Int) := Int.natCast_nonneg _
      have t1 : (i : Int) < (len : Int) := by omega
      have hfar := own_far hown hadb
      obtain ⟨n, hn⟩ : ∃ n, n = acc.length := ⟨_, rfl⟩
      rw [← hn] at hown hai
      have HN := Lib.hid hn
      clear hn
      by_cases h255 : x = 255
      · subst h255
        by_cases hl1 : i + 1 < len
        · obtain ⟨ad', u, had, _, hy, hd⟩ := (hR.below hbw).at_ (k := i + 1) hl1
          obtain rfl : ad = ad' := by injection had
          obtain ⟨y, hy', rfl⟩ := bytesV_at hy
          have hd : wr.cell? ⟨ad.block, ad.off + (i + 1), none⟩ = some (.int .u8 (y.toNat : Int)) := by simpa [Addr.add] using hd
          have hdr2 := drop_at l (i + 1) y hy'
          have HD2 := Lib.hid hdr2
          clear hdr2 hy hy' had
          by_cases hy0 : y = 0
          · subst hy0
            go_wp2_with (at_builtin; go_loud (refine wpList_append_lies _ rfl _ _ 22 rfl B 5 ii _ 1 1 Tryd.underlying22 hi hz0 hz1 hz2 rfl (by omega) _ n _ rfl (hown.alloc _) ⟨wr.heap.size, 0, none⟩ 1 1 [Value.int .u8 255] rfl rfl (World.news_of_block (cs := #[Value.int .u8 255]) (t := 5) (fr := (0, 0)) (heap_alloc_new wr _)) (by simp [Value.oneCell']) (by omega) (by unfold maxLen; omega) (by omega) (by simp; omega) (wr.heap.size + 1) (by simp) ?_; intro gg cap w1 hown1 hgrow hat hlt2; have hb1 := below_append hbw hBw _ hown hgrow))
            go_round
            case rel =>
              have hP := HP.out
              have hQ := HQ.out
              rw [HD.out, HD2.out, unst_pair] at hP hQ
              refine ⟨i + 2, acc ++ [255], by omega, by simp [← HN.out]; omega, by go_num, ?_, hb1, by rw [List.append_assoc]; exact hP, ?_⟩
              · rw [numsV_append, List.length_append, ← HN.out]
                exact hown1
              · simp only at hQ; rw [← hQ, show i + 1 + 1 = i + 2 by omega]; omega
            case measure => simp [intOf]; omega
          · have hd0 : ((y.toNat : Int) == 0) = false := by
              simp; intro e; apply hy0; apply UInt8.toNat_inj.1; simp; omega
            have hE : unst (l.drop i) = ([], 0) := by
              rw [HD.out, HD2.out]; exact unst_end _ (fun z s e => by injection e with e1 e2; rw [← e1]; exact hy0)
            have hp := HP.out
            have hq := HQ.out
            rw [hE] at hp hq
            simp only [List.append_nil, Nat.add_zero] at hp hq
            rw [HN.out] at hown
            have hv := holds_own hown
            rw [hp] at hv
            have HQ2 := Lib.hid hq
            clear hp hq hE HP HQ HD HD2
            go_wp2_with fail
            try rw [Exit.noGoto_ret]
            go_ret2
            exact ⟨_, by rw [← HQ2.out]; first | done | rfl, hv, hbw⟩
        · have hE : unst (l.drop i) = ([], 0) := by
            rw [HD.out, List.drop_of_length_le (by have := HL.out; omega)]; exact unst_end _ (fun z s e => by cases e)
          have hp := HP.out
          have hq := HQ.out
          rw [hE] at hp hq
          simp only [List.append_nil, Nat.add_zero] at hp hq
          rw [HN.out] at hown
          have hv := holds_own hown
          rw [hp] at hv
          have HQ2 := Lib.hid hq
          clear hp hq hE HP HQ HD
          go_wp2_with fail
          try rw [Exit.noGoto_ret]
          go_ret2
          exact ⟨_, by rw [← HQ2.out]; first | done | rfl, hv, hbw⟩
      · have hd : ((x.toNat : Int) == 255) = false := by
          simp; intro e; apply h255; apply UInt8.toNat_inj.1; simp; omega
        go_wp2_with (at_builtin; go_loud (refine wpList_append_lies _ rfl _ _ 22 rfl B 5 ii _ 1 1 Tryd.underlying22 hi hz0 hz1 hz2 rfl (by omega) _ n _ rfl (hown.alloc _) ⟨wr.heap.size, 0, none⟩ 1 1 [Value.int .u8 (x.toNat : Int)] rfl rfl (World.news_of_block (cs := #[Value.int .u8 (x.toNat : Int)]) (t := 5) (fr := (0, 0)) (heap_alloc_new wr _)) (by simp [Value.oneCell']) (by omega) (by unfold maxLen; omega) (by omega) (by simp; omega) (wr.heap.size + 1) (by simp) ?_; intro gg cap w1 hown1 hgrow hat hlt2; have hb1 := below_append hbw hBw _ hown hgrow))
        go_round
        case rel =>
          have hP := HP.out
          have hQ := HQ.out
          rw [HD.out, unst_plain x _ h255] at hP hQ
          refine ⟨i + 1, acc ++ [x], by omega, by simp [← HN.out]; omega, by go_num, ?_, hb1, by rw [List.append_assoc]; exact hP, ?_⟩
          · rw [numsV_append, List.length_append, ← HN.out]
            exact hown1
          · simp only at hQ; rw [← hQ]; omega
        case measure => simp [intOf]; omega
    · obtain rfl : i = len := by omega
      have hall : l.drop i = [] := List.drop_of_length_le (by omega)
      rw [hall] at hp hq
      simp only [unst, List.append_nil, Nat.add_zero] at hp hq
      have hv := holds_own hown
      rw [hp] at hv
      have HQ := Lib.hid hq
      clear hp hq hl
      go_wp2_with fail
      try rw [Exit.noGoto_ret]
      go_ret2
      exact ⟨_, by rw [← HQ.out]; first | done | rfl, hv, hbw⟩
end Go.Proofs.YtijnldbbibgjcaaDoor
