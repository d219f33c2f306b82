/- BlockCut: a block cut off is none; with others behind it is the same. -/
import Derived.Test.YtbjcjddaaegheaaRPack
import Derived.Test.YtbjcjddaaegheaaLast
namespace Go.Proofs.Ytbjcjddaaegheaa
open Go.RowKit

theorem own_form2 {w : World} {base : Nat} {e : TypeId} {size n : Nat} {v : Value} {xs : List Value} (h : w.ownsRow base e size v n xs) : ∃ A c, v = .slice A n c ∧ n ≤ c ∧ Reads w w.heap.size size A n xs := by
  rcases h.2 with ⟨rfl, h0⟩ | ⟨g, cap, cur, rfl, _, _, hnc, _⟩
  · have hl := h.1
    rw [h0] at hl h ⊢
    exact ⟨none, 0, rfl, Nat.le_refl _, Reads.of_own (c := 0) h⟩
  · exact ⟨some ⟨g, 0, none⟩, cap, rfl, hnc, Reads.of_own (c := cap) h⟩
theorem addr_add_zero (a : Addr) : a.add 0 = a := by simp [Addr.add]
theorem cut22 (A : Option Addr) (len c m : Nat) (hm : m ≤ c) (w : World) : (Instr.sliceAt 22 (.slice A len c) none (some (.int .i64 m)) none).run Try.prog w = .ok (.slice A m c) w := by
  have ht : Try.prog.underlying 22 = some (.slice (Try.prog.elem 22)) := by kernel_rfl
  have he : Try.prog.elem 22 = 5 := by kernel_rfl
  obtain ⟨ii, hi1, hi2⟩ := Option.map_eq_some_iff.1 info5
  simp only [Prod.mk.injEq] at hi2
  rw [run_sliceAt_slice (w := w) 22 _ _ _ _ ht, run_slice_h (w := w) 22 A len c ht .i64 (m : Int) (by omega) (by omega), he]
  have hsz : (sizeOf 5).run Try.prog w = .ok 1 w := by simp [sizeOf, typeInfo, hi1, hi2]
  rw [hsz, Result.andThen_ok]
  have e : (if c = 0 then A else A.map fun x => x.add (0 * 1)) = A := by
    split
    · rfl
    · cases A <;> simp [addr_add_zero]
  simp only [sliced, Int.toNat_natCast, Nat.sub_zero, e]
theorem yieldsIf_cut22 {ops : Array Oper} {S : World → Prop} {op : Oper} {a : Act} (hw : Region.wanted op (yielded ops a.tmps) = true) (x hi : Operand) (ho : op.op = .slice 22 x none (some hi) none) (A : Option Addr) (len c m : Nat) (hm : m ≤ c)
    (hx : a.eval x = .slice A len c) (hh : a.eval hi = .int .i64 m) : YieldsIf Try.prog ops S op (.slice A m c) a :=
  .inl ⟨hw, fun w _ => by
    unfold execOp
    simp only [ho, hx, hh, Option.map, Sem.run_bind, cut22 A len c m hm, Result.andThen_ok, Sem.run_pure]⟩
theorem reads_take {w : World} {A : Option Addr} {B n m : Nat} {bs : List Int} (h : Reads w B 1 A n (bytesV bs)) (hn : bs.length = n) (hm : m ≤ n) : Reads w B 1 A m (bytesV (bs.take m)) := by
  refine ⟨by rw [bytesV, List.length_map, List.length_take]; omega, fun h0 => ?_⟩
  obtain ⟨ad, e, hb, hc⟩ := h.2 (by omega)
  refine ⟨ad, e, hb, fun j u hu => hc j u ?_⟩
  rw [bytesV, List.map_take, List.getElem?_take] at hu
  split at hu
  · exact hu
  · cases hu
end Go.Proofs.Ytbjcjddaaegheaa
namespace Go.Proofs.Ytbjcjddaaegheaa
open Go.RowKit

theorem append22r {ops : Array Oper} {rest : List Oper} {o : Oper} {a : Act} {w : World} {Q : Exit → Act → World → Prop} (hgd : o.guard = none) (s x : Operand)
    (ho : o.op = .call { callee := .builtin .append, args := #[s, x], argTypes := #[22, 22] }) (base : Nat) (v : Value) (n : Nat) (r : List Int) (hs : a.eval s = v) (hown : w.ownsRow base 5 1 v n (bytesV r))
    (B : Nat) (A : Option Addr) (m c : Nat) (q : List Int) (hx : a.eval x = .slice A m c) (hr : Reads w B 1 A m (bytesV q)) (hn : n + m ≤ 1000000) (hbase : base ≤ w.heap.size)
    (h : ∀ v' w', w'.ownsRow base 5 1 v' (n + m) (bytesV (r ++ q)) → w.grownBy w' v.ownBlock → wpList Try.prog ops Q rest (a.put o.dst v') w') : wpList Try.prog ops Q (o :: rest) a w := by
  obtain ⟨i, hi, hi2⟩ := Option.map_eq_some_iff.1 info5
  simp only [Prod.mk.injEq] at hi2
  obtain ⟨hz, hsz, hby⟩ := hi2
  refine wpList_append_any w hgd s x 22 ho base 5 i _ 1 1 Try.underlying22 hi hz hsz hby rfl (by decide) v n (bytesV r) hs hown B A m c (bytesV q) hx hr (fun u hu => ?_) (by simp only [maxLen]; omega) (by omega) hbase (fun v' w' h1 h2 _ => h v' w' (by rw [bytesV, List.map_append]; exact h1) h2)
  simp only [bytesV, List.mem_map] at hu
  obtain ⟨y, _, rfl⟩ := hu
  rfl

theorem wp_alloc33 {P : Program} {o : Oper} {a : Act} {w : World} {K : Act → World → Prop} {Q : Exit → Act → World → Prop} (t : TypeId) (ho : o.op = .alloc t) {cs : Array Value} (hz : ∀ w, (zeroValue t).run P w = .ok (.agg cs) w)
    (h : K (a.put o.dst (.pointer (some ⟨w.heap.size, 0, none⟩))) (w.alloc (.cells cs t))) : o.wp P a w K Q := by
  have hr : (execOp a.eval o).run P w = .ok (.value (.pointer (some ⟨w.heap.size, 0, none⟩))) (w.alloc (.cells cs t)) := by
    unfold execOp
    simp only [ho]
    simp [Instr.alloc, newVar, newRow, newObj, hz, Value.cells, Result.andThen, go_sem]
    rfl
  unfold Oper.wp
  rw [hr]
  exact h
set_option maxRecDepth 100000 in
set_option maxHeartbeats 20000000 in
theorem cut_any (A : Option Addr) (c len : Nat) (bs : List Int) (A4 : Option Addr) (c4 len4 : Nat) (bs4 : List Int) (k n : Int) (W : World) (hlen : bs.length = len) (hb : AreBytes bs) (hr : Reads W W.heap.size 1 A len (bytesV bs)) (hl : len ≤ 9223372036854775807)
    (hlen4 : bs4.length = len4) (hb4 : AreBytes bs4) (hr4 : Reads W W.heap.size 1 A4 len4 (bytesV bs4)) (hl4 : len4 ≤ 9223372036854775807)
    (k0 : 0 ≤ k) (k1 : k ≤ 255) (n0 : 0 ≤ n) (n1 : n ≤ 255) :
    Calls Try.prog 5 #[.slice A len c, .int .u8 k, .int .u8 n, .slice A4 len4 c4] W fun e w' => e = .returned (.bool true) ∧ Below W.heap.size W w' := by
  by_cases h100 : 100 < len4
  · go_enter Try.func5, Try.ntmps5
    go_wp2_with fail
    refine (known_any _).mono ?_
    rintro e w1 ⟨rfl, hb1⟩
    go_wp2_with fail
    go_ret
    exact ⟨rfl, hb1⟩
  have KZ := Lib.hid (zig_any W.heap.size A c len bs k W hlen hb (Nat.le_refl _) hr (by omega) k0 k1)
  have KT := Lib.hid (tables_any (k % 2))
  have hz27 := zero27
  have hz33 := zero33
  have hs0 : (tabCells (List.replicate 16 0) (.slice none 0 0)).size = 17 := tabCells_size _ _ rfl
  have HNO := Lib.hid tab_noU8
  obtain ⟨t0, ht0⟩ : ∃ t0, t0 = tabCells (List.replicate 16 0) (.slice none 0 0) := ⟨_, rfl⟩
  rw [← ht0] at hz27 hs0 HNO
  have HS0 := Lib.hid hs0
  obtain ⟨z0, hz0⟩ : ∃ z0, z0 = intsC (List.replicate 64 0) := ⟨_, rfl⟩
  have hzs : z0.size = 64 := by rw [hz0, intsC_size]; simp
  rw [← hz0] at hz33
  have HZS := Lib.hid hzs
  clear ht0 hs0 hz0 hzs hr hb
  go_enter Try.func5, Try.ntmps5
  go_wp2_with fail
  go_at_call 12
  refine KZ.out.mono ?_
  rintro e w1 ⟨z, hz, rfl, hb1⟩
  clear KZ
  have hs33 := size33 z hz.len
  have hone := intsC_one z
  have hos : z0.size = (intsC z).size := by rw [HZS.out, intsC_size, hz.len]
  obtain ⟨f0, f1⟩ := hz.first
  have hset : z.set 0 (z.getD 0 0 - 0 + 0) = z := by rw [show z.getD 0 0 - 0 + 0 = z.getD 0 0 by omega, set_getD]
  have KB := Lib.hid (fun w => bits_any z 0 (k % 2) w hz (by omega) (by omega))
  have hread := bits_read (k % 2) hz (last := 0) (l2 := 0) (by omega) (by omega) (by omega) (by omega) bs4
  rw [hset] at hread
  have hcut := fun m hm => bits_cut (k % 2) hz (last := 0) (l2 := 0) (by omega) (by omega) (by omega) (by omega) m hm
  have hL := bitsS_len (k % 2) hz (last := 0) (by omega) (by omega)
  have hpos := codesB_pos (dcF_full _ (stdP_01 (k % 2))) (fa := acF (stdP (k % 2))) z 0 (by omega)
  have hTL := packB_length (codesB (groupsS (dcF (stdP (k % 2))) (acF (stdP (k % 2))) z 0).flatten)
  change (bitsS (stdP (k % 2)) z 0).length = _ at hTL
  obtain ⟨L, hLd⟩ : ∃ L, L = bitsS (stdP (k % 2)) z 0 := ⟨_, rfl⟩
  have hLb : AreBytes L := by rw [hLd]; exact bitsS_bytes _ _ _
  rw [← hLd] at KB hread hL hcut hTL
  obtain ⟨T, hT⟩ : ∃ T, T = (codesB (groupsS (dcF (stdP (k % 2))) (acF (stdP (k % 2))) z 0).flatten).length := ⟨_, rfl⟩
  rw [← hT] at hread hpos hTL
  obtain ⟨Q, hQ⟩ : ∃ Q, Q = L ++ bs4 := ⟨_, rfl⟩
  have hQb : AreBytes Q := by
    rw [hQ]
    intro x hx
    rcases List.mem_append.1 hx with h1 | h1
    · exact hLb x h1
    · exact hb4 x h1
  have hQl : Q.length = L.length + len4 := by rw [hQ, List.length_append, hlen4]
  rw [← hQ] at hread
  have KR := Lib.hid (fun A' c' dc ac w hrw h1 h2 => bread_std (k % 2) A' c' Q 0 0 dc ac w hQb hrw (by omega) (by omega) (by omega) (by omega) (by omega) h1 h2 _ hread)
  simp only [readV] at KR
  obtain ⟨m, hm⟩ : ∃ m : Nat, (m : Int) = max ((L.length : Int) - 1 - n % 3) 0 := ⟨((max ((L.length : Int) - 1 - n % 3) 0)).toNat, by omega⟩
  have hmL : m < L.length := by omega
  have htb : AreBytes (L.take m) := fun x hx => hLb x (List.mem_of_mem_take hx)
  have htl : (L.take m).length = m := by rw [List.length_take]; omega
  have KC := Lib.hid (fun A' c' dc ac w hrw h1 h2 => bread_std (k % 2) A' c' (L.take m) 0 0 dc ac w htb hrw (by omega) (by omega) (by omega) (by omega) (by omega) h1 h2 _ (hcut m hmL))
  simp only [readV, htl] at KC
  have HTAKE : Hid (∀ (w : World) (A' : Option Addr) (B : Nat), Reads w B 1 A' L.length (bytesV L) → Reads w B 1 A' m (bytesV (L.take m))) := Lib.hid (fun w A' B h => by
    refine ⟨by rw [bytesV, List.length_map, htl]; omega, fun h0 => ?_⟩
    obtain ⟨ad, e, hb, hc⟩ := h.2 (by omega)
    refine ⟨ad, e, hb, fun j u hu => hc j u ?_⟩
    rw [bytesV, List.map_take, List.getElem?_take] at hu
    split at hu
    · exact hu
    · cases hu)
  have hn1 := Blk.new w1 33 z0
  have hbe1 := hb1.alloc hb1.size (.cells z0 33)
  have hle1 := hb1.size
  have HOS := Lib.hid hos
  have HEQ : Hid (∀ (ac : Act) (w : World), ac.eval (.tmp 75) = .agg (intsC z) → ac.eval (.tmp 76) = .agg (intsC z) → ∀ o : Oper, o.op = .binOp .eql 33 (.tmp 75) (.tmp 76) 33 → (execOp ac.eval o).run Try.prog w = .ok (.value (.bool true)) w) := Lib.hid (fun ac w h2 h3 o h1 => by
    have := run_eql33 _ _ hz.len hz.len w ac.eval o (.tmp 75) (.tmp 76) h1 h2 h3
    rw [this]; simp)
  have HM := Lib.hid hm
  have HQ := Lib.hid hQ
  have HQL := Lib.hid hQl
  have HTL := Lib.hid hTL
  obtain ⟨cz, hcz⟩ : ∃ x, x = intsC z := ⟨_, rfl⟩
  rw [← hcz] at hs33 hone HOS HEQ KB KR ⊢
  have hz0f : (intsC (List.replicate 64 0)) = (intsC (List.replicate 64 0)) := rfl
  clear hos hread hcut hcz hT hLd hset hz hb1 hQ hQb hQl hm htb htl hLb hTL f0 f1 hz0f
  go_wp2_with (first | (refine wpList_store_blk rfl 33 (.tmp 9) (.tmp 26) rfl w1.heap.size rfl 33 z0 cz rfl hn1 hs33 HOS.out hone ?_; intro w3 hB3 hg3 hs3; clear hs3; have hbe3 := hbe1.grown hg3 (by simp; omega) (fun k e => by cases e; exact hle1)) | (refine wpList_load_blk rfl 33 (.tmp 9) rfl w1.heap.size rfl 33 _ _ hB3 Try.underlying33 rfl hs33 ?_))
  go_at_call 11
  refine (KB.out _).mono ?_
  rintro e w4 ⟨v, rfl, hown, hb4'⟩
  have hB4 := hB3.below hb4' hB3.lt
  have hbe4 := hbe3.trans (hb4'.mono hbe3.size)
  clear hB3 hbe3 KB hg3 hn1 hbe1 hb4'
  go_wp2_with fail
  go_at_call 9
  refine (KT.out _).mono ?_
  rintro e w5 ⟨dc, ac, rfl, htd, hta, hb5⟩
  have hB5 := hB4.below hb5 hB4.lt
  have hbe5 := hbe4.trans (hb5.mono hbe4.size)
  have hown5 := own_below hown hb5 (Nat.le_refl _)
  obtain ⟨AL, cL, rfl, hnL, hrL⟩ := own_form2 hown5
  clear hB4 hbe4 hown hb5
  have sd := size27 (htd.size (goodDC _))
  have sa := size27 (hta.size (goodAC _))
  have one1 := htd.one
  have one2 := hta.one
  have ED := Lib.hid (show t0.size = dc.size by rw [HS0.out, htd.size (goodDC _)])
  have EA := Lib.hid (show t0.size = ac.size by rw [HS0.out, hta.size (goodAC _)])
  have hB6 := (hB5.alloc (.cells t0 27)).alloc (.cells t0 27)
  have hD6 := (Blk.new w5 27 t0).alloc (.cells t0 27)
  have hA6 := Blk.new (w5.alloc (.cells t0 27)) 27 t0
  rw [World.size_alloc] at hA6
  have hbs : Below w5.heap.size w5 ((w5.alloc (.cells t0 27)).alloc (.cells t0 27)) := ((Below.refl _ _).alloc (Nat.le_refl _) _).alloc (by simp) _
  have htd6 := htd.below hbs
  have hta6 := hta.below hbs
  have hrL6 := (hrL.below hbs).more hbs.size
  have hbe6 := hbe5.trans (hbs.mono hbe5.size)
  have hg5 := hbe5.size
  have hlt5 := hB5.lt
  clear htd hta hB5 hbe5 hbs hrL hown5
  generalize hgg : w1.heap.size = g at *
  clear hgg
  go_wp2_with (first | (refine wpList_store_blk rfl 27 (.tmp 11) (.tmp 37) rfl w5.heap.size rfl 27 t0 dc rfl hD6 sd ED.out one1 ?_; intro w7 hD7 hg7 hs7; clear hs7; have hA7 := hA6.grown hg7 (fun e => by injection e with e; omega); have hB7 := hB6.grown hg7 (fun e => by injection e with e; omega); have htd7 := htd6.off hD6 HNO.out hg7; have hta7 := hta6.off hD6 HNO.out hg7; have hrL7 := hrL6.off hD6 HNO.out hg7; have hbe7 := hbe6.grown hg7 hbe6.size (fun k e => by cases e; exact hg5)) | (refine wpList_store_blk rfl 27 (.tmp 12) (.tmp 38) rfl (w5.heap.size + 1) rfl 27 t0 ac rfl hA7 sa EA.out one2 ?_; intro w8 hA8 hg8 hs8; clear hs8; have hD8 := hD7.grown hg8 (fun e => by injection e with e; omega); have hB8 := hB7.grown hg8 (fun e => by injection e with e; omega); have htd8 := htd7.off hA7 HNO.out hg8; have hta8 := hta7.off hA7 HNO.out hg8; have hrL8 := hrL7.off hA7 HNO.out hg8; have hbe8 := hbe7.grown hg8 hbe7.size (fun k e => by cases e; omega); clear hrL6 hrL7 htd6 htd7 hta6 hta7 hD6 hD7 hA6 hA7 hB6 hB7 hbe6 hbe7 hg7 hg8) | (refine append22r rfl (.tmp 39) (.tmp 40) rfl w8.heap.size (.slice none 0 0) 0 [] rfl (World.ownsRow_nil _ _ _ _) w8.heap.size AL L.length cL L rfl hrL8 (by omega) (Nat.le_refl _) ?_; intro v9 w9 hown9 hg9; have hb9 := below_own (World.ownsRow_nil w8 w8.heap.size 5 1) hg9 (Nat.le_refl _) (Nat.le_refl _); simp only [Nat.zero_add, List.nil_append] at hown9; obtain ⟨A9, c9, rfl, hr9⟩ := own_form hown9; have hsz9 := hb9.size; have hr49 := hr4.below (hbe8.trans (hb9.mono hbe8.size))) | (refine append22r rfl (.tmp 42) (.tmp 43) rfl w8.heap.size (.slice A9 L.length c9) L.length L rfl hown9 W.heap.size A4 len4 c4 bs4 rfl hr49 (by omega) hsz9 ?_; intro v10 w10 hown10 hg10; have hb10 := hb9.trans (below_own hown9 hg10 (Nat.le_refl _) hsz9); rw [← HQL.out, ← HQ.out] at hown10; obtain ⟨A10, c10, rfl, hr10⟩ := own_form hown10; have hB10 := hB8.below hb10 hB8.lt; have hD10 := hD8.below hb10 hD8.lt; have hA10 := hA8.below hb10 hA8.lt; have htd10 := htd8.below hb10; have hta10 := hta8.below hb10; have hrL10 := (hrL8.below hb10).more hb10.size; have hbe10 := hbe8.trans (hb10.mono hbe8.size); clear hb10 hown10 hg10 hr49 hown9 hg9 hr9 hb9 hsz9 hB8 hD8 hA8 htd8 hta8 hrL8 hbe8) | (refine wpList_load_blk rfl 27 (.tmp 11) rfl w5.heap.size rfl 27 _ _ hD10 Try.underlying27 rfl sd ?_) | (refine wpList_load_blk rfl 27 (.tmp 12) rfl (w5.heap.size + 1) rfl 27 _ _ hA10 Try.underlying27 rfl sa ?_))
  refine (KR.out _ _ _ _ _ hr10 htd10 hta10).mono ?_
  rintro e w11 ⟨rfl, hb11⟩
  have hB11 := hB10.below hb11 hB10.lt
  have hD11 := hD10.below hb11 hD10.lt
  have hA11 := hA10.below hb11 hA10.lt
  have htd11 := htd10.below hb11
  have hta11 := hta10.below hb11
  have hrL11 := (hrL10.below hb11).more hb11.size
  have hbe11 := hbe10.trans (hb11.mono hbe10.size)
  have hn11 := Blk.new w11 33 z0
  have hB11' := hB11.alloc (.cells z0 33)
  have hD11' := hD11.alloc (.cells z0 33)
  have hA11' := hA11.alloc (.cells z0 33)
  have hl1 : g < w11.heap.size := hB11.lt
  have hl2 : w5.heap.size + 1 < w11.heap.size := hA11.lt
  have hbs11 : Below w11.heap.size w11 (w11.alloc (.cells z0 33)) := (Below.refl _ _).alloc (Nat.le_refl _) _
  clear hB10 hD10 hA10 htd10 hta10 hrL10 hbe10 hb11 hr10 KR
  go_wp2_with (refine wpList_store_blk rfl 33 (.tmp 14) (.tmp 50) rfl w11.heap.size rfl 33 z0 cz rfl hn11 hs33 HOS.out hone ?_; intro w12 hX12 hg12 hs12; clear hs12; have hB12 := hB11'.grown hg12 (fun e => by injection e with e; omega); have hD12 := hD11'.grown hg12 (fun e => by injection e with e; omega); have hA12 := hA11'.grown hg12 (fun e => by injection e with e; omega); have hb12 := hbs11.grown hg12 (by simp) (fun k e => by cases e; exact Nat.le_refl _))
  have htd12 := htd11.below hb12
  have hta12 := hta11.below hb12
  have hrL12 := (hrL11.below hb12).more hb12.size
  have hbe12 := hbe11.trans (hb12.mono hbe11.size)
  clear hn11 hB11' hD11' hA11' hbs11 hg12 htd11 hta11 hrL11 hbe11 hb12
  have hm3 : IntKind.i64.wrap (n.tmod 3) = n % 3 := by rw [Int.tmod_eq_emod_of_nonneg n0, IntKind.wrap_i64]; omega
  have hl1' : IntKind.i64.wrap ((L.length : Int) - 1) = (L.length : Int) - 1 := by rw [IntKind.wrap_i64]; omega
  have hl2' : IntKind.i64.wrap ((L.length : Int) - 1 - n % 3) = (L.length : Int) - 1 - n % 3 := by rw [IntKind.wrap_i64]; omega
  have hmax : (if (L.length : Int) - 1 - n % 3 < 0 then 0 else (L.length : Int) - 1 - n % 3) = (m : Int) := by rw [HM.out]; split <;> omega
  rename_i K hK
  have hlx := hX12.lt
  replace hbe12 := hbe12.drew
  replace hB12 := hB12.drew
  replace hX12 := hX12.drew
  have hSd := hD12.drew
  have hSa := hA12.drew
  replace htd12 : TabAt w12.drew dc (dcC (stdP (k % 2))) (stdV 0 (stdP (k % 2))) := htd12
  replace hta12 : TabAt w12.drew ac (acC (stdP (k % 2))) (stdV 1 (stdP (k % 2))) := hta12
  replace hrL12 : Reads w12.drew w12.drew.heap.size 1 AL L.length (bytesV L) := hrL12
  refine wp_region_noPanic ?_
  refine wp_region_held (S := fun w => Blk w w5.heap.size 27 dc ∧ Blk w (w5.heap.size + 1) 27 ac) (by kernel_rfl) ?_
  show wpAnyH _ _ _ _ _ _ _ _ w12.drew
  generalize w12.drew = w13 at *
  refine wpAnyH_take (i := 0) (oi := ⟨some 54, _, _, _, _, _⟩) (v := .slice AL L.length cL) rfl (by kernel_rfl) (by kernel_rfl) (by kernel_rfl) (fun c a w h => h) (Or.inl ⟨by rfl, fun w _ => by kernel_rfl⟩) ⟨hSd, hSa⟩ ?_
  simp only [Act.put, List.setIfInBounds_toArray, List.set_cons_zero, List.set_cons_succ]
  refine wpAnyH_take (i := 1) (oi := ⟨some 55, _, _, _, _, _⟩) (v := .slice AL L.length cL) rfl (by kernel_rfl) (by kernel_rfl) (by kernel_rfl) (fun c a w h => h) (Or.inl ⟨by rfl, fun w _ => by kernel_rfl⟩) ⟨hSd, hSa⟩ ?_
  simp only [Act.put, List.setIfInBounds_toArray, List.set_cons_zero, List.set_cons_succ]
  refine wpAnyH_take (i := 2) (oi := ⟨some 56, _, _, _, _, _⟩) (v := .int .i64 L.length) rfl (by kernel_rfl) (by kernel_rfl) (by kernel_rfl) (fun c a w h => h) (Or.inl ⟨by rfl, fun w _ => by kernel_rfl⟩) ⟨hSd, hSa⟩ ?_
  simp only [Act.put, List.setIfInBounds_toArray, List.set_cons_zero, List.set_cons_succ]
  refine wpAnyH_take (i := 3) (oi := ⟨some 57, _, _, _, _, _⟩) (v := .int .i64 (IntKind.i64.wrap ((L.length : Int) - 1))) rfl (by kernel_rfl) (by kernel_rfl) (by kernel_rfl) (fun c a w h => h) (Or.inl ⟨by rfl, fun w _ => by kernel_rfl⟩) ⟨hSd, hSa⟩ ?_
  simp only [Act.put, List.setIfInBounds_toArray, List.set_cons_zero, List.set_cons_succ]
  rw [hl1']
  refine wpAnyH_take (i := 4) (oi := ⟨some 58, _, _, _, _, _⟩) (v := .int .u8 n) rfl (by kernel_rfl) (by kernel_rfl) (by kernel_rfl) (fun c a w h => h) (Or.inl ⟨by rfl, fun w _ => by kernel_rfl⟩) ⟨hSd, hSa⟩ ?_
  simp only [Act.put, List.setIfInBounds_toArray, List.set_cons_zero, List.set_cons_succ]
  refine wpAnyH_take (i := 5) (oi := ⟨some 59, _, _, _, _, _⟩) (v := .int .u8 (n.tmod 3)) rfl (by kernel_rfl) (by kernel_rfl) (by kernel_rfl) (fun c a w h => h) (Or.inl ⟨by rfl, fun w _ => by kernel_rfl⟩) ⟨hSd, hSa⟩ ?_
  simp only [Act.put, List.setIfInBounds_toArray, List.set_cons_zero, List.set_cons_succ]
  refine wpAnyH_take (i := 6) (oi := ⟨some 60, _, _, _, _, _⟩) (v := .int .i64 (IntKind.i64.wrap (n.tmod 3))) rfl (by kernel_rfl) (by kernel_rfl) (by kernel_rfl) (fun c a w h => h) (Or.inl ⟨by rfl, fun w _ => by kernel_rfl⟩) ⟨hSd, hSa⟩ ?_
  simp only [Act.put, List.setIfInBounds_toArray, List.set_cons_zero, List.set_cons_succ]
  rw [hm3]
  refine wpAnyH_take (i := 7) (oi := ⟨some 61, _, _, _, _, _⟩) (v := .int .i64 (IntKind.i64.wrap ((L.length : Int) - 1 - n % 3))) rfl (by kernel_rfl) (by kernel_rfl) (by kernel_rfl) (fun c a w h => h) (Or.inl ⟨by rfl, fun w _ => by kernel_rfl⟩) ⟨hSd, hSa⟩ ?_
  simp only [Act.put, List.setIfInBounds_toArray, List.set_cons_zero, List.set_cons_succ]
  rw [hl2']
  refine wpAnyH_take (i := 8) (oi := ⟨some 62, _, _, _, _, _⟩) (v := .int .i64 (if (L.length : Int) - 1 - n % 3 < 0 then 0 else (L.length : Int) - 1 - n % 3)) rfl (by kernel_rfl) (by kernel_rfl) (by kernel_rfl) (fun c a w h => h) (Or.inl ⟨by rfl, fun w _ => by kernel_rfl⟩) ⟨hSd, hSa⟩ ?_
  simp only [Act.put, List.setIfInBounds_toArray, List.set_cons_zero, List.set_cons_succ]
  rw [hmax]
  refine wpAnyH_take (i := 9) (oi := ⟨some 63, _, _, _, _, _⟩) (v := .slice AL m cL) rfl (by kernel_rfl) (by kernel_rfl) (by kernel_rfl) (fun c a w h => h) (yieldsIf_cut22 (by rfl) (.tmp 54) (.tmp 62) rfl AL L.length cL m (by omega) rfl rfl) ⟨hSd, hSa⟩ ?_
  simp only [Act.put, List.setIfInBounds_toArray, List.set_cons_zero, List.set_cons_succ]
  refine wpAnyH_take (i := 10) (oi := ⟨some 64, _, _, _, _, _⟩) (v := .agg dc) rfl (by kernel_rfl) (by kernel_rfl) (by kernel_rfl) (fun c a w h => h) (yieldsIf_load_blk (by rfl) 27 (.tmp 11) rfl w5.heap.size rfl 27 dc _ (fun w h => h.1) Try.underlying27 rfl sd) ⟨hSd, hSa⟩ ?_
  simp only [Act.put, List.setIfInBounds_toArray, List.set_cons_zero, List.set_cons_succ]
  refine wpAnyH_take (i := 11) (oi := ⟨some 65, _, _, _, _, _⟩) (v := .agg ac) rfl (by kernel_rfl) (by kernel_rfl) (by kernel_rfl) (fun c a w h => h) (yieldsIf_load_blk (by rfl) 27 (.tmp 12) rfl (w5.heap.size + 1) rfl 27 ac _ (fun w h => h.2) Try.underlying27 rfl sa) ⟨hSd, hSa⟩ ?_
  simp only [Act.put, List.setIfInBounds_toArray, List.set_cons_zero, List.set_cons_succ]
  obtain ⟨zz0, hzz0⟩ : ∃ zz0, zz0 = intsC (List.replicate 64 0) := ⟨_, rfl⟩
  rw [← hzz0] at KC
  have hszz : (Try.prog.info? 33).map (·.size) = some zz0.size := by rw [hzz0]; exact size33 _ (by simp)
  have honez : zz0.all (·.oneCell') = true := by rw [hzz0]; exact intsC_one _
  have hosz : z0.size = zz0.size := by rw [HZS.out, hzz0, intsC_size]; simp
  clear hzz0 hm3 hl1' hl2' hmax
  refine wpAnyH_ready (rs := [12, 17]) (by kernel_rfl) (by simp) ?_
  refine AllReadyH.cons rfl (fun K' hK' => ?_) (AllReadyH.cons rfl (fun K' hK' => ?_) AllReadyH.nil)
  · go_simp
    refine (KC.out AL cL dc ac _ (HTAKE.out _ _ _ hrL12) htd12 hta12).mono ?_
    rintro e w14 ⟨rfl, hb14⟩
    have hSd14 := hSd.below hb14 hSd.lt
    have hSa14 := hSa.below hb14 hSa.lt
    have hB14 := hB12.below hb14 hB12.lt
    have hX14 := hX12.below hb14 hX12.lt
    have hbe14 := hbe12.trans (hb14.mono hbe12.size)
    refine hK'.out _ _ ⟨hSd14, hSa14⟩ (fun hS5 => ?_)
    clear hK' K' hS5 hb14
    try simp only [Act.put, List.setIfInBounds_toArray, List.set_cons_zero, List.set_cons_succ]
    refine wpAnyH_take (i := 13) (oi := ⟨some 53, _, _, _, _, _⟩) (v := .tuple #[.agg zz0, .int .i64 0, .bool false]) rfl (by kernel_rfl) (by kernel_rfl) (by kernel_rfl) (fun c a w h => h) (Or.inl ⟨by rfl, fun w _ => by kernel_rfl⟩) ⟨hSd14, hSa14⟩ ?_
    simp only [Act.put, List.setIfInBounds_toArray, List.set_cons_zero, List.set_cons_succ]
    refine wpAnyH_take (i := 14) (oi := ⟨some 67, _, _, _, _, _⟩) (v := .agg zz0) rfl (by kernel_rfl) (by kernel_rfl) (by kernel_rfl) (fun c a w h => h) (Or.inl ⟨by rfl, fun w _ => by kernel_rfl⟩) ⟨hSd14, hSa14⟩ ?_
    simp only [Act.put, List.setIfInBounds_toArray, List.set_cons_zero, List.set_cons_succ]
    refine wpAnyH_take (i := 15) (oi := ⟨some 68, _, _, _, _, _⟩) (v := .int .i64 0) rfl (by kernel_rfl) (by kernel_rfl) (by kernel_rfl) (fun c a w h => h) (Or.inl ⟨by rfl, fun w _ => by kernel_rfl⟩) ⟨hSd14, hSa14⟩ ?_
    simp only [Act.put, List.setIfInBounds_toArray, List.set_cons_zero, List.set_cons_succ]
    refine wpAnyH_take (i := 16) (oi := ⟨some 69, _, _, _, _, _⟩) (v := .bool false) rfl (by kernel_rfl) (by kernel_rfl) (by kernel_rfl) (fun c a w h => h) (Or.inl ⟨by rfl, fun w _ => by kernel_rfl⟩) ⟨hSd14, hSa14⟩ ?_
    simp only [Act.put, List.setIfInBounds_toArray, List.set_cons_zero, List.set_cons_succ]
    refine wpAnyH_ready (rs := [17]) (by kernel_rfl) (by simp) ?_
    refine AllReadyH.cons rfl (fun K' hK' => ?_) AllReadyH.nil
    rw [if_pos (by rfl)]
    refine wp_alloc33 (o := ⟨some 17, _, _, _, _, _⟩) _ rfl hz33 ?_
    have hn15 := Blk.new w14 33 z0
    have hb15 : Below w14.heap.size w14 (w14.alloc (.cells z0 33)) := (Below.refl _ _).alloc (Nat.le_refl _) _
    refine hK'.out _ _ ⟨hSd14.alloc _, hSa14.alloc _⟩ (fun hS5 => ?_)
    clear hK' K' hS5
    simp only [Act.put, List.setIfInBounds_toArray, List.set_cons_zero, List.set_cons_succ]
    refine wpAnyH_ready (rs := [18]) (by kernel_rfl) (by simp) ?_
    refine AllReadyH.cons rfl (fun K' hK' => ?_) AllReadyH.nil
    rw [if_pos (by rfl)]
    refine wp_store_blk (o := ⟨none, _, _, _, _, _⟩) 33 (.tmp 17) (.tmp 67) rfl w14.heap.size rfl 33 z0 zz0 rfl hn15 hszz hosz honez ?_
    intro w16 hN16 hg16
    have hb16 := hb15.grown hg16 (by simp) (fun k e => by cases e; exact Nat.le_refl _)
    have hSz : Blk w16 w5.heap.size 27 dc ∧ Blk w16 (w5.heap.size + 1) 27 ac := ⟨hSd14.below hb16 hSd14.lt, hSa14.below hb16 hSa14.lt⟩
    have hBz := hB14.below hb16 hB14.lt
    have hXz := hX14.below hb16 hX14.lt
    have hbez := hbe14.trans (hb16.mono hbe14.size)
    refine hK'.out _ _ hSz (fun hS5 => ?_)
    clear hK' K' hS5
    simp only [Act.put]
    refine wpAnyH_take (i := 19) (oi := ⟨some 18, _, _, _, _, _⟩) (v := .int .i64 0) rfl (by kernel_rfl) (by kernel_rfl) (by kernel_rfl) (fun c a w h => h) (Or.inl ⟨by rfl, fun w _ => by kernel_rfl⟩) hSz ?_
    simp only [Act.put, List.setIfInBounds_toArray, List.set_cons_zero, List.set_cons_succ]
    refine wpAnyH_take (i := 20) (oi := ⟨some 19, _, _, _, _, _⟩) (v := .bool false) rfl (by kernel_rfl) (by kernel_rfl) (by kernel_rfl) (fun c a w h => h) (Or.inl ⟨by rfl, fun w _ => by kernel_rfl⟩) hSz ?_
    simp only [Act.put, List.setIfInBounds_toArray, List.set_cons_zero, List.set_cons_succ]
    refine wpAnyH_done (by kernel_rfl) ?_ _
    refine hK _ _ ?_
    try simp only [Act.put, List.setIfInBounds_toArray, List.set_cons_zero, List.set_cons_succ]
    clear hK K
    have hlen1 : IntKind.i64.wrap (8 * (L.length : Int)) = 8 * (L.length : Int) := by rw [IntKind.wrap_i64]; omega
    have hT1 : (T : Int) ≤ 8 * (L.length : Int) := by have := HTL.out; omega
    have hT2 : 8 * (L.length : Int) - 8 < (T : Int) := by have := HTL.out; omega
    go_wp2_with fail
    go_at_call 8
    refine (known_any _).mono ?_
    rintro e w20 ⟨rfl, hb20⟩
    have hB20 := hBz.below hb20 hBz.lt
    have hX20 := hXz.below hb20 hXz.lt
    have hbe20 := hbez.trans (hb20.mono hbez.size)
    clear hBz hXz hbez hb20 hSz
    go_wp2_with (first | (refine wpList_load_blk_want rfl 33 (.tmp 14) rfl w11.heap.size rfl 33 _ _ hX20 Try.underlying33 rfl hs33 ?_) | (refine wpList_load_blk_want rfl 33 (.tmp 9) rfl g rfl 33 _ _ hB20 Try.underlying33 rfl hs33 ?_) | (refine wpList_ran_want rfl _ (HEQ.out _ _ rfl rfl _ rfl) ?_))
    go_ret
    exact ⟨rfl, hbe20⟩
  · rw [if_pos (by rfl)]
    refine wp_alloc33 (o := ⟨some 17, _, _, _, _, _⟩) _ rfl hz33 ?_
    have hn15 := Blk.new w13 33 z0
    have hb15 : Below w13.heap.size w13 (w13.alloc (.cells z0 33)) := (Below.refl _ _).alloc (Nat.le_refl _) _
    have htd15 := htd12.below hb15
    have hta15 := hta12.below hb15
    have hrL15 := (hrL12.below hb15).more hb15.size
    have hSd15 := hSd.below hb15 hSd.lt
    have hSa15 := hSa.below hb15 hSa.lt
    have hB15 := hB12.below hb15 hB12.lt
    have hX15 := hX12.below hb15 hX12.lt
    have hbe15 := hbe12.trans (hb15.mono hbe12.size)
    have hl15 := hB12.lt
    have hl16 := hX12.lt
    have hl17 := hSa.lt
    have hle17 := hbe12.size
    refine hK'.out _ _ ⟨hSd15, hSa15⟩ (fun hS5 => ?_)
    clear hK' K' hS5 hb15
    simp only [Act.put, List.setIfInBounds_toArray, List.set_cons_zero, List.set_cons_succ]
    refine wpAnyH_ready (rs := [12]) (by kernel_rfl) (by simp) ?_
    refine AllReadyH.cons rfl (fun K' hK' => ?_) AllReadyH.nil
    go_simp
    generalize w13.alloc (.cells z0 33) = w15 at *
    refine (KC.out AL cL dc ac _ (HTAKE.out _ _ _ hrL15) htd15 hta15).mono ?_
    rintro e w14 ⟨rfl, hb14⟩
    have hSd14 := hSd15.below hb14 hSd15.lt
    have hSa14 := hSa15.below hb14 hSa15.lt
    have hB14 := hB15.below hb14 hB15.lt
    have hX14 := hX15.below hb14 hX15.lt
    have hn14 := hn15.below hb14 hn15.lt
    have hbe14 := hbe15.trans (hb14.mono hbe15.size)
    refine hK'.out _ _ ⟨hSd14, hSa14⟩ (fun hS5 => ?_)
    clear hK' K' hS5 hb14
    try simp only [Act.put, List.setIfInBounds_toArray, List.set_cons_zero, List.set_cons_succ]
    refine wpAnyH_take (i := 13) (oi := ⟨some 53, _, _, _, _, _⟩) (v := .tuple #[.agg zz0, .int .i64 0, .bool false]) rfl (by kernel_rfl) (by kernel_rfl) (by kernel_rfl) (fun c a w h => h) (Or.inl ⟨by rfl, fun w _ => by kernel_rfl⟩) ⟨hSd14, hSa14⟩ ?_
    simp only [Act.put, List.setIfInBounds_toArray, List.set_cons_zero, List.set_cons_succ]
    refine wpAnyH_take (i := 14) (oi := ⟨some 67, _, _, _, _, _⟩) (v := .agg zz0) rfl (by kernel_rfl) (by kernel_rfl) (by kernel_rfl) (fun c a w h => h) (Or.inl ⟨by rfl, fun w _ => by kernel_rfl⟩) ⟨hSd14, hSa14⟩ ?_
    simp only [Act.put, List.setIfInBounds_toArray, List.set_cons_zero, List.set_cons_succ]
    refine wpAnyH_take (i := 15) (oi := ⟨some 68, _, _, _, _, _⟩) (v := .int .i64 0) rfl (by kernel_rfl) (by kernel_rfl) (by kernel_rfl) (fun c a w h => h) (Or.inl ⟨by rfl, fun w _ => by kernel_rfl⟩) ⟨hSd14, hSa14⟩ ?_
    simp only [Act.put, List.setIfInBounds_toArray, List.set_cons_zero, List.set_cons_succ]
    refine wpAnyH_take (i := 16) (oi := ⟨some 69, _, _, _, _, _⟩) (v := .bool false) rfl (by kernel_rfl) (by kernel_rfl) (by kernel_rfl) (fun c a w h => h) (Or.inl ⟨by rfl, fun w _ => by kernel_rfl⟩) ⟨hSd14, hSa14⟩ ?_
    simp only [Act.put, List.setIfInBounds_toArray, List.set_cons_zero, List.set_cons_succ]
    refine wpAnyH_ready (rs := [18]) (by kernel_rfl) (by simp) ?_
    refine AllReadyH.cons rfl (fun K' hK' => ?_) AllReadyH.nil
    rw [if_pos (by rfl)]
    refine wp_store_blk (o := ⟨none, _, _, _, _, _⟩) 33 (.tmp 17) (.tmp 67) rfl w13.heap.size rfl 33 z0 zz0 rfl hn14 hszz hosz honez ?_
    intro w16 hN16 hg16
    have hSz : Blk w16 w5.heap.size 27 dc ∧ Blk w16 (w5.heap.size + 1) 27 ac := ⟨hSd14.grown hg16 (fun e => by injection e with e; omega), hSa14.grown hg16 (fun e => by injection e with e; omega)⟩
    have hBz := hB14.grown hg16 (fun e => by injection e with e; omega)
    have hXz := hX14.grown hg16 (fun e => by injection e with e; omega)
    have hbez := hbe14.grown hg16 hbe14.size (fun k e => by cases e; exact hle17)
    refine hK'.out _ _ hSz (fun hS5 => ?_)
    clear hK' K' hS5
    simp only [Act.put]
    refine wpAnyH_take (i := 19) (oi := ⟨some 18, _, _, _, _, _⟩) (v := .int .i64 0) rfl (by kernel_rfl) (by kernel_rfl) (by kernel_rfl) (fun c a w h => h) (Or.inl ⟨by rfl, fun w _ => by kernel_rfl⟩) hSz ?_
    simp only [Act.put, List.setIfInBounds_toArray, List.set_cons_zero, List.set_cons_succ]
    refine wpAnyH_take (i := 20) (oi := ⟨some 19, _, _, _, _, _⟩) (v := .bool false) rfl (by kernel_rfl) (by kernel_rfl) (by kernel_rfl) (fun c a w h => h) (Or.inl ⟨by rfl, fun w _ => by kernel_rfl⟩) hSz ?_
    simp only [Act.put, List.setIfInBounds_toArray, List.set_cons_zero, List.set_cons_succ]
    refine wpAnyH_done (by kernel_rfl) ?_ _
    refine hK _ _ ?_
    try simp only [Act.put, List.setIfInBounds_toArray, List.set_cons_zero, List.set_cons_succ]
    clear hK K
    have hlen1 : IntKind.i64.wrap (8 * (L.length : Int)) = 8 * (L.length : Int) := by rw [IntKind.wrap_i64]; omega
    have hT1 : (T : Int) ≤ 8 * (L.length : Int) := by have := HTL.out; omega
    have hT2 : 8 * (L.length : Int) - 8 < (T : Int) := by have := HTL.out; omega
    go_wp2_with fail
    go_at_call 8
    refine (known_any _).mono ?_
    rintro e w20 ⟨rfl, hb20⟩
    have hB20 := hBz.below hb20 hBz.lt
    have hX20 := hXz.below hb20 hXz.lt
    have hbe20 := hbez.trans (hb20.mono hbez.size)
    clear hBz hXz hbez hb20 hSz
    go_wp2_with (first | (refine wpList_load_blk_want rfl 33 (.tmp 14) rfl w11.heap.size rfl 33 _ _ hX20 Try.underlying33 rfl hs33 ?_) | (refine wpList_load_blk_want rfl 33 (.tmp 9) rfl g rfl 33 _ _ hB20 Try.underlying33 rfl hs33 ?_) | (refine wpList_ran_want rfl _ (HEQ.out _ _ rfl rfl _ rfl) ?_))
    go_ret
    exact ⟨rfl, hbe20⟩
theorem cut_walk (A : Option Addr) (len cap : Nat) (zs : List Int) (k n : Int) (A4 : Option Addr) (len4 cap4 : Nat) (zs4 : List Int) (W : World) (h : IsRow .u8 W A len cap zs) (hk : (Lit.int .u8 k).wf = true) (hn : (Lit.int .u8 n).wf = true) (h4 : IsRow .u8 W A4 len4 cap4 zs4) :
    Calls Try.prog 5 #[.slice A len cap, .int .u8 k, .int .u8 n, .slice A4 len4 cap4] W fun e w' => e = .returned (.bool true) ∧ Below W.heap.size W w' := by
  obtain ⟨bs, h1, h2, h3, hb, hr⟩ := row_reads h
  obtain ⟨bs4, g1, g2, g3, gb, gr⟩ := row_reads h4
  have := bounds_u8 hk
  have := bounds_u8 hn
  exact cut_any A cap len bs A4 cap4 len4 bs4 k n W h1 hb hr (by unfold maxLen at h3; omega) g1 gb gr (by unfold maxLen at g3; omega) (by omega) (by omega) (by omega) (by omega)
end Go.Proofs.Ytbjcjddaaegheaa
