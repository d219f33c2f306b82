/- BlockReads: both Reads say the same of any bytes, of a block's, bent, or cut off. -/
import Derived.Test.YtbjcjddaaegheaaCutW
import Derived.Test.YtbjcjddaaegheaaRow14
import Derived.Test.YtbjcjddaaegheaaSame13
import Derived.Test.YtbjcjddaaegheaaTable10
namespace Go.Proofs.Ytbjcjddaaegheaa
open Go.RowKit

theorem bitsS_pos (part : Int) {z : List Int} (hz : Zigged z) : 0 < (bitsS (stdP part) z 0).length := by
  obtain ⟨f0, f1⟩ := hz.first
  have := codesB_pos (dcF_full _ (stdP_01 part)) (fa := acF (stdP part)) z 0 (by omega)
  unfold bitsS
  rw [packB_length]
  omega

theorem yieldsIf_rem {ops : Array Oper} {S : World → Prop} {op : Oper} {a : Act} (hw : Region.wanted op (yielded ops a.tmps) = true) (x y : Operand) (t : TypeId) (ho : op.op = .binOp .rem t x y t) (p q : Int)
    (hx : a.eval x = .int .i64 p) (hy : a.eval y = .int .i64 q) (hq : q ≠ 0) : YieldsIf Try.prog ops S op (.int .i64 (p.tmod q)) a :=
  .inl ⟨hw, fun w _ => by
    unfold execOp
    simp only [ho, hx, hy]
    simp [eqGuard, binOp, hq, go_sem]⟩
/-- where BlockReads stands -/
structure RS (W : World) (pD pA pT : Nat) (dc ac tc : Array Value) (dt dv at' av ct vs : List Int) (A : Option Addr) (len : Nat) (bs : List Int) (AL : Option Addr) (nL : Nat) (L : List Int) (AM : Option Addr) (nM : Nat) (M : List Int) (w : World) : Prop where
  d : Blk w pD 27 dc
  a : Blk w pA 27 ac
  t : Blk w pT 27 tc
  td : TabAt w dc dt dv
  ta : TabAt w ac at' av
  tt : TabAt w tc ct vs
  rb : Reads w w.heap.size 1 A len (bytesV bs)
  rl : Reads w w.heap.size 1 AL nL (bytesV L)
  rm : Reads w w.heap.size 1 AM nM (bytesV M)
  b : Below W.heap.size W w
section
variable {W : World} {pD pA pT : Nat} {dc ac tc : Array Value} {dt dv at' av ct vs : List Int} {A : Option Addr} {len : Nat} {bs : List Int} {AL : Option Addr} {nL : Nat} {L : List Int} {AM : Option Addr} {nM : Nat} {M : List Int} {w w' : World}
theorem RS.below (h : RS W pD pA pT dc ac tc dt dv at' av ct vs A len bs AL nL L AM nM M w) (hb : Below w.heap.size w w') : RS W pD pA pT dc ac tc dt dv at' av ct vs A len bs AL nL L AM nM M w' :=
  ⟨h.d.below hb h.d.lt, h.a.below hb h.a.lt, h.t.below hb h.t.lt, h.td.below hb, h.ta.below hb, h.tt.below hb, (h.rb.below hb).more hb.size, (h.rl.below hb).more hb.size, (h.rm.below hb).more hb.size, h.b.trans (hb.mono h.b.size)⟩
theorem RS.drew (h : RS W pD pA pT dc ac tc dt dv at' av ct vs A len bs AL nL L AM nM M w) : RS W pD pA pT dc ac tc dt dv at' av ct vs A len bs AL nL L AM nM M w.drew := h.below (Below.refl _ _).drew
theorem RS.s (h : RS W pD pA pT dc ac tc dt dv at' av ct vs A len bs AL nL L AM nM M w) : Blk w pD 27 dc ∧ Blk w pA 27 ac ∧ Blk w pT 27 tc := ⟨h.d, h.a, h.t⟩
end

set_option maxRecDepth 100000 in
set_option maxHeartbeats 20000000 in
theorem breads_any (A : Option Addr) (c len : Nat) (bs : List Int) (at_ last : Int) (A3 : Option Addr) (c3 len3 : Nat) (bs3 : List Int) (A4 : Option Addr) (c4 len4 : Nat) (k wv v : Int) (W : World)
    (K10 : ∀ w, Below W.heap.size W w → Calls Try.prog 10 #[.slice A4 len4 c4] w (TableBack w))
    (hlen : bs.length = len) (hb : AreBytes bs) (hr : Reads W W.heap.size 1 A len (bytesV bs)) (hl : len ≤ 9223372036854775807)
    (hlen3 : bs3.length = len3) (hb3 : AreBytes bs3) (hr3 : Reads W W.heap.size 1 A3 len3 (bytesV bs3)) (hl3 : len3 ≤ 9223372036854775807)
    (a0 : -9223372036854775808 ≤ at_) (a1 : at_ ≤ 9223372036854775807) (la0 : -9223372036854775808 ≤ last) (la1 : last ≤ 9223372036854775807)
    (k0 : 0 ≤ k) (k1 : k ≤ 255) (wv0 : 0 ≤ wv) (wv1 : wv ≤ 65535) (v0 : 0 ≤ v) (v1 : v ≤ 255) :
    Calls Try.prog 3 #[.slice A len c, .int .i64 at_, .int .i64 last, .slice A3 len3 c3, .slice A4 len4 c4, .int .u8 k, .int .u16 wv, .int .u8 v] W fun e w' => e = .returned (.bool true) ∧ Below W.heap.size W w' := by
  by_cases h300 : 300 < len
  · go_enter Try.func3, Try.ntmps3
    go_wp2_with fail
    go_at_call 8
    refine (known_any _).mono ?_
    rintro e w1 ⟨rfl, hb1⟩
    go_wp2_with fail
    go_ret
    exact ⟨rfl, hb1⟩
  have KZ := Lib.hid (fun w (h : Below W.heap.size W w) => zig_any W.heap.size A3 c3 len3 bs3 k w hlen3 hb3 h.size (hr3.below h) (by omega) k0 k1)
  have KB := Lib.hid (fun z w (hz : Zigged z) => bits_any z 0 (k % 2) w hz (by omega) (by omega))
  have KW := Lib.hid (fun w (h : Below W.heap.size W w) => row14_any A3 c3 len3 bs3 w hlen3 hb3 ((hr3.below h).more h.size) (by omega))
  have KT := Lib.hid (tables_any (k % 2))
  have K10' := Lib.hid K10
  have HGD := Lib.hid (goodDC (k % 2))
  have HGA := Lib.hid (goodAC (k % 2))
  have HRB := Lib.hid (fun w (h : Below W.heap.size W w) => (hr.below h).more h.size)
  have HB := Lib.hid hb
  have hz27 := zero27
  have hs0 : (tabCells (List.replicate 16 0) (.slice none 0 0)).size = 17 := tabCells_size _ _ rfl
  have HNO := Lib.hid tab_noU8
  obtain ⟨t0, ht0⟩ : ∃ t0, t0 = tabCells (List.replicate 16 0) (.slice none 0 0) := ⟨_, rfl⟩
  rw [← ht0] at hz27 hs0 HNO
  have HS0 := Lib.hid hs0
  clear ht0 hs0 hr hr3 hb hb3 K10
  go_enter Try.func3, Try.ntmps3
  go_wp2_with fail
  refine (known_any _).mono ?_
  rintro e w1 ⟨rfl, hb1⟩
  go_wp2_with fail
  go_at_call 9
  refine (KT.out _).mono ?_
  rintro e w5 ⟨dc, ac, rfl, htd, hta, hb5⟩
  have hbe5 := hb1.trans (hb5.mono hb1.size)
  clear hb1 hb5
  have sd := size27 (htd.size HGD.out)
  have sa := size27 (hta.size HGA.out)
  have one1 := htd.one
  have one2 := hta.one
  have ED := Lib.hid (show t0.size = dc.size by rw [HS0.out, htd.size HGD.out])
  have EA := Lib.hid (show t0.size = ac.size by rw [HS0.out, hta.size HGA.out])
  have hD6 := (Blk.new w5 27 t0).alloc (.cells t0 27)
  have hA6 := Blk.new (w5.alloc (.cells t0 27)) 27 t0
  rw [World.size_alloc] at hA6
  have hbs : Below w5.heap.size w5 ((w5.alloc (.cells t0 27)).alloc (.cells t0 27)) := ((Below.refl _ _).alloc (Nat.le_refl _) _).alloc (by simp) _
  have htd6 := htd.below hbs
  have hta6 := hta.below hbs
  have hbe6 := hbe5.trans (hbs.mono hbe5.size)
  have hg5 := hbe5.size
  clear htd hta hbe5 hbs
  go_wp2_with (first | (refine wpList_store_blk rfl 27 (.tmp 17) (.tmp 36) rfl w5.heap.size rfl 27 t0 dc rfl hD6 sd ED.out one1 ?_; intro w7 hD7 hg7 hs7; clear hs7; have hA7 := hA6.grown hg7 (fun e => by injection e with e; omega); have htd7 := htd6.off hD6 HNO.out hg7; have hta7 := hta6.off hD6 HNO.out hg7; have hbe7 := hbe6.grown hg7 hbe6.size (fun k e => by cases e; exact hg5)) | (refine wpList_store_blk rfl 27 (.tmp 18) (.tmp 37) rfl (w5.heap.size + 1) rfl 27 t0 ac rfl hA7 sa EA.out one2 ?_; intro w8 hA8 hg8 hs8; clear hs8; have hD8 := hD7.grown hg8 (fun e => by injection e with e; omega); have htd8 := htd7.off hA7 HNO.out hg8; have hta8 := hta7.off hA7 HNO.out hg8; have hbe8 := hbe7.grown hg8 hbe7.size (fun k e => by cases e; omega); clear htd6 htd7 hta6 hta7 hD6 hD7 hA6 hA7 hbe6 hbe7 hg7 hg8))
  go_at_call 10
  refine (K10'.out _ hbe8).mono ?_
  rintro e w9 ⟨tc, ct, vs, rfl, hgt, htt, hb9⟩
  have hD9 := hD8.below hb9 hD8.lt
  have hA9 := hA8.below hb9 hA8.lt
  have htd9 := htd8.below hb9
  have hta9 := hta8.below hb9
  have hbe9 := hbe8.trans (hb9.mono hbe8.size)
  clear hD8 hA8 htd8 hta8 hbe8 hb9 K10'
  have st := size27 (htt.size hgt)
  have one3 := htt.one
  have ET := Lib.hid (show t0.size = tc.size by rw [HS0.out, htt.size hgt])
  have HGT := Lib.hid hgt
  have hT10 := Blk.new w9 27 t0
  have hbs : Below w9.heap.size w9 (w9.alloc (.cells t0 27)) := (Below.refl _ _).alloc (Nat.le_refl _) _
  have htt10 := htt.below hbs
  have hl9 := hA9.lt
  have hg9 := hbe9.size
  clear hgt htt
  go_wp2_with (refine wpList_store_blk rfl 27 (.tmp 19) (.tmp 39) rfl w9.heap.size rfl 27 t0 tc rfl hT10 st ET.out one3 ?_; intro w11 hT11 hg11 hs11; clear hs11; have htt11 := htt10.off hT10 HNO.out hg11; have hb11 := hbs.grown hg11 (by simp) (fun k e => by cases e; exact Nat.le_refl _); have hD11 := hD9.below hb11 hD9.lt; have hA11 := hA9.below hb11 hA9.lt; have htd11 := htd9.below hb11; have hta11 := hta9.below hb11; have hbe11 := hbe9.trans (hb11.mono hbe9.size); clear hb11 hg11 hT10 htt10 hbs hD9 hA9 htd9 hta9 hbe9)
  go_at_call 12
  refine (KZ.out _ hbe11).mono ?_
  rintro e w12 ⟨z, hz, rfl, hb12⟩
  go_wp2_with fail
  go_at_call 11
  refine (KB.out z _ hz).mono ?_
  rintro e w13 ⟨vl, rfl, hownL, hb13⟩
  have hb13' := hb12.trans (hb13.mono hb12.size)
  have hLl := bitsS_len (k % 2) hz (last := 0) (by omega) (by omega)
  obtain ⟨L, hL⟩ : ∃ L, L = bitsS (stdP (k % 2)) z 0 := ⟨_, rfl⟩
  have HLB : Hid (AreBytes L) := Lib.hid (by rw [hL]; exact bitsS_bytes _ _ _)
  rw [← hL] at hownL hLl
  obtain ⟨AL, cL, rfl, hnL, hrL⟩ := own_form2 hownL
  have hD13 := hD11.below hb13' hD11.lt
  have hA13 := hA11.below hb13' hA11.lt
  have hT13 := hT11.below hb13' hT11.lt
  have htd13 := htd11.below hb13'
  have hta13 := hta11.below hb13'
  have htt13 := htt11.below hb13'
  have hbe13 := hbe11.trans (hb13'.mono hbe11.size)
  clear hL hz hownL hb12 hb13 hb13' hD11 hA11 hT11 htd11 hta11 htt11 hbe11
  go_wp2_with fail
  go_at_call 12
  refine (KZ.out _ hbe13).mono ?_
  rintro e w14 ⟨z', hz', rfl, hb14⟩
  go_wp2_with fail
  go_at_call 11
  refine (KB.out z' _ hz').mono ?_
  rintro e w15 ⟨vm, rfl, hownM, hb15⟩
  have hb15' := hb14.trans (hb15.mono hb14.size)
  have hMl := bitsS_len (k % 2) hz' (last := 0) (by omega) (by omega)
  have hMp := bitsS_pos (k % 2) hz'
  obtain ⟨M, hM⟩ : ∃ M, M = bitsS (stdP (k % 2)) z' 0 := ⟨_, rfl⟩
  have HMB : Hid (AreBytes M) := Lib.hid (by rw [hM]; exact bitsS_bytes _ _ _)
  rw [← hM] at hownM hMl hMp
  obtain ⟨gM, cM, rfl⟩ := own_slice hownM hMp
  have hgM : w14.heap.size ≤ gM := own_ge hownM gM rfl
  have hl13 := hb14.size
  have hlD := hD13.lt
  have hlA := hA13.lt
  have hlT := hT13.lt
  have hle13 := hbe13.size
  obtain ⟨ix, hix⟩ : ∃ ix : Nat, (ix : Int) = wv % M.length := ⟨(wv % M.length).toNat, Int.toNat_of_nonneg (Int.emod_nonneg wv (show (M.length : Int) ≠ 0 by omega))⟩
  have hixl : ix < M.length := by have := Int.emod_lt_of_pos wv (show (0 : Int) < M.length by omega); omega
  have hrem : Int.tmod wv (M.length : Int) = (ix : Int) := by rw [Int.tmod_eq_emod_of_nonneg wv0, hix]
  have hMi : (bytesV M)[ix]? = some (.int .u8 (M.getD ix 0)) := by rw [bytesV, List.getElem?_map, List.getElem?_eq_getElem hixl, List.getD_eq_getElem?_getD, List.getElem?_eq_getElem hixl]; rfl
  have hcM := own_cell hownM ix _ hMi
  have hfM := hownM.frozenAt ix
  have hM0 : ((M.length : Int) == 0) = false := by rw [beq_eq_false_iff_ne]; omega
  have hMz : (M.length : Int) ≠ 0 := by omega
  have hMgt : (0 : Int) < (M.length : Int) := by omega
  obtain ⟨s1, s2⟩ := hownM.stored ix (.int .u8 v)
  have hbytes2 : AreBytes (M.set ix v) := fun x hx => by
    rcases List.mem_or_eq_of_mem_set hx with h1 | rfl
    · exact HMB.out x h1
    · exact ⟨v0, v1⟩
  have hb16 : Below w13.heap.size w13 (w15.setCell ⟨gM, ix, none⟩ (.int .u8 v)) := hb15'.setCell (p := ⟨gM, ix, none⟩) (Nat.le_trans hl13 hgM) _
  have hrM16 : Reads (w15.setCell ⟨gM, ix, none⟩ (.int .u8 v)) (w15.setCell ⟨gM, ix, none⟩ (.int .u8 v)).heap.size 1 (some ⟨gM, 0, none⟩) M.length (bytesV (M.set ix v)) := by
    have := Reads.of_own (c := cM) s1
    rwa [show (bytesV M).set ix (.int .u8 v) = bytesV (M.set ix v) by unfold bytesV; rw [List.map_set]] at this
  have hbe16 := hbe13.trans (hb16.mono hbe13.size)
  have hRS : RS W w5.heap.size (w5.heap.size + 1) w9.heap.size dc ac tc (dcC (stdP (k % 2))) (stdV 0 (stdP (k % 2))) (acC (stdP (k % 2))) (stdV 1 (stdP (k % 2))) ct vs A len bs AL L.length L (some ⟨gM, 0, none⟩) M.length (M.set ix v) (w15.setCell ⟨gM, ix, none⟩ (.int .u8 v)) :=
    ⟨hD13.below hb16 hlD, hA13.below hb16 hlA, hT13.below hb16 hlT, htd13.below hb16, hta13.below hb16, htt13.below hb16, HRB.out _ hbe16, (hrL.below hb16).more hb16.size, hrM16, hbe16⟩
  have KRD : Hid (∀ (A' : Option Addr) (c' n' : Nat) (bs' : List Int) (a' l' : Int) (w : World), bs'.length = n' → AreBytes bs' → Reads w w.heap.size 1 A' n' (bytesV bs') → n' ≤ 1000000 → -9223372036854775808 ≤ a' → a' ≤ 9223372036854775807 → -9223372036854775808 ≤ l' → l' ≤ 9223372036854775807 → TabAt w dc (dcC (stdP (k % 2))) (stdV 0 (stdP (k % 2))) → TabAt w ac (acC (stdP (k % 2))) (stdV 1 (stdP (k % 2))) →
      Calls Try.prog 13 #[.slice A' n' c', .int .i64 a', .int .i64 l', .agg dc, .agg ac] w fun e w' => e = .returned (.bool true) ∧ Below w.heap.size w w') := Lib.hid (fun A' c' n' bs' a' l' w h1 h2 h3 h4 h5 h6 h7 h8 h9 h10 => reads_any A' c' n' bs' a' l' dc ac _ _ _ _ w h1 h2 h3 (by omega) h5 h6 h7 h8 HGD.out h9 HGA.out h10)
  have KRT : Hid (∀ (A' : Option Addr) (c' n' : Nat) (bs' : List Int) (a' l' : Int) (w : World), bs'.length = n' → AreBytes bs' → Reads w w.heap.size 1 A' n' (bytesV bs') → n' ≤ 1000000 → -9223372036854775808 ≤ a' → a' ≤ 9223372036854775807 → -9223372036854775808 ≤ l' → l' ≤ 9223372036854775807 → TabAt w tc ct vs →
      Calls Try.prog 13 #[.slice A' n' c', .int .i64 a', .int .i64 l', .agg tc, .agg tc] w fun e w' => e = .returned (.bool true) ∧ Below w.heap.size w w') := Lib.hid (fun A' c' n' bs' a' l' w h1 h2 h3 h4 h5 h6 h7 h8 h9 => reads_any A' c' n' bs' a' l' tc tc _ _ _ _ w h1 h2 h3 (by omega) h5 h6 h7 h8 HGT.out h9 HGT.out h9)
  have KRX : Hid (∀ (A' : Option Addr) (c' n' : Nat) (bs' : List Int) (a' l' : Int) (w : World), bs'.length = n' → AreBytes bs' → Reads w w.heap.size 1 A' n' (bytesV bs') → n' ≤ 1000000 → -9223372036854775808 ≤ a' → a' ≤ 9223372036854775807 → -9223372036854775808 ≤ l' → l' ≤ 9223372036854775807 → TabAt w ac (acC (stdP (k % 2))) (stdV 1 (stdP (k % 2))) → TabAt w dc (dcC (stdP (k % 2))) (stdV 0 (stdP (k % 2))) →
      Calls Try.prog 13 #[.slice A' n' c', .int .i64 a', .int .i64 l', .agg ac, .agg dc] w fun e w' => e = .returned (.bool true) ∧ Below w.heap.size w w') := Lib.hid (fun A' c' n' bs' a' l' w h1 h2 h3 h4 h5 h6 h7 h8 h9 h10 => reads_any A' c' n' bs' a' l' ac dc _ _ _ _ w h1 h2 h3 (by omega) h5 h6 h7 h8 HGA.out h9 HGD.out h10)
  have HBY2 := Lib.hid hbytes2
  have hMl2 : (M.set ix v).length = M.length := by simp
  have HML2 := Lib.hid hMl2
  have HLEN := Lib.hid hlen
  have hwk : IntKind.i64.wrap k = k := by rw [IntKind.wrap_i64]; omega
  have hwk9 : IntKind.i64.wrap (k - 9) = k - 9 := by rw [IntKind.wrap_i64]; omega
  have hww : IntKind.i64.wrap wv = wv := by rw [IntKind.wrap_i64]; omega
  have hwl : IntKind.i64.wrap ((L.length : Int) + 1) = (L.length : Int) + 1 := by rw [IntKind.wrap_i64]; omega
  have hq0 : (L.length : Int) + 1 ≠ 0 := by omega
  obtain ⟨mm, hmm⟩ : ∃ mm : Nat, (mm : Int) = wv % ((L.length : Int) + 1) := ⟨(wv % ((L.length : Int) + 1)).toNat, Int.toNat_of_nonneg (Int.emod_nonneg wv hq0)⟩
  have hmmL : mm ≤ L.length := by have := Int.emod_lt_of_pos wv (show (0 : Int) < (L.length : Int) + 1 by omega); omega
  have hmt : wv.tmod ((L.length : Int) + 1) = (mm : Int) := by rw [Int.tmod_eq_emod_of_nonneg wv0, hmm]
  have hw9 : IntKind.i64.wrap (wv.tmod 9) = wv % 9 := by rw [Int.tmod_eq_emod_of_nonneg wv0, IntKind.wrap_i64]; omega
  have h9a : 0 ≤ wv % 9 := by omega
  have h9b : wv % 9 ≤ 8 := by omega
  clear hM hz' hb14 hb15 hb15' hD13 hA13 hT13 htd13 hta13 htt13 hrL hbe13 hix hMi hmm hbytes2 hb16 hrM16 hMl2 hlen
  go_wp2_with fail
  rename_i K hK
  replace hRS := hRS.drew
  have hS := hRS.s
  refine wp_region_noPanic ?_
  refine wp_region_held (S := fun w => Blk w w5.heap.size 27 dc ∧ Blk w (w5.heap.size + 1) 27 ac ∧ Blk w w9.heap.size 27 tc) (by kernel_rfl) ?_
  show wpAnyH _ _ _ _ _ _ _ _ (World.drew _)
  refine wpAnyH_take (i := 0) (oi := ⟨some 65, _, _, _, _, _⟩) (v := .slice A len c) rfl (by kernel_rfl) (by kernel_rfl) (by kernel_rfl) (fun c a w h => h) (Or.inl ⟨by rfl, fun w _ => by kernel_rfl⟩) hS ?_
  try simp only [Act.put, List.setIfInBounds_toArray, List.set_cons_zero, List.set_cons_succ]
  refine wpAnyH_take (i := 1) (oi := ⟨some 66, _, _, _, _, _⟩) (v := .int .i64 at_) rfl (by kernel_rfl) (by kernel_rfl) (by kernel_rfl) (fun c a w h => h) (Or.inl ⟨by rfl, fun w _ => by kernel_rfl⟩) hS ?_
  try simp only [Act.put, List.setIfInBounds_toArray, List.set_cons_zero, List.set_cons_succ]
  refine wpAnyH_take (i := 2) (oi := ⟨some 67, _, _, _, _, _⟩) (v := .int .i64 last) rfl (by kernel_rfl) (by kernel_rfl) (by kernel_rfl) (fun c a w h => h) (Or.inl ⟨by rfl, fun w _ => by kernel_rfl⟩) hS ?_
  try simp only [Act.put, List.setIfInBounds_toArray, List.set_cons_zero, List.set_cons_succ]
  refine wpAnyH_take (i := 3) (oi := ⟨some 68, _, _, _, _, _⟩) (v := .agg dc) rfl (by kernel_rfl) (by kernel_rfl) (by kernel_rfl) (fun c a w h => h) (yieldsIf_load_blk (by rfl) 27 (.tmp 17) rfl w5.heap.size rfl 27 dc _ (fun w h => h.1) Try.underlying27 rfl sd) hS ?_
  try simp only [Act.put, List.setIfInBounds_toArray, List.set_cons_zero, List.set_cons_succ]
  refine wpAnyH_take (i := 4) (oi := ⟨some 69, _, _, _, _, _⟩) (v := .agg ac) rfl (by kernel_rfl) (by kernel_rfl) (by kernel_rfl) (fun c a w h => h) (yieldsIf_load_blk (by rfl) 27 (.tmp 18) rfl (w5.heap.size + 1) rfl 27 ac _ (fun w h => h.2.1) Try.underlying27 rfl sa) hS ?_
  try simp only [Act.put, List.setIfInBounds_toArray, List.set_cons_zero, List.set_cons_succ]
  refine wpAnyH_ready (rs := [5]) (by kernel_rfl) (by simp) ?_
  refine AllReadyH.cons rfl (fun K' hK' => ?_) AllReadyH.nil
  go_simp
  refine (KRD.out A c len bs at_ last _ HLEN.out HB.out hRS.rb (by omega) (by omega) (by omega) (by omega) (by omega) hRS.td hRS.ta).mono ?_
  rintro e w17 ⟨rfl, hb⟩
  replace hRS := hRS.below hb
  replace hS := hRS.s
  refine hK'.out _ _ hS (fun hS5 => ?_)
  clear hK' K' hS5 hb
  try simp only [Act.put, List.setIfInBounds_toArray, List.set_cons_zero, List.set_cons_succ]
  refine wpAnyH_take (i := 6) (oi := ⟨some 71, _, _, _, _, _⟩) (v := .bool true) rfl (by kernel_rfl) (by kernel_rfl) (by kernel_rfl) (fun c a w h => h) (Or.inl ⟨by rfl, fun w _ => by kernel_rfl⟩) hS ?_
  try simp only [Act.put, List.setIfInBounds_toArray, List.set_cons_zero, List.set_cons_succ]
  refine wpAnyH_take (i := 7) (oi := ⟨some 72, _, _, _, _, _⟩) (v := .slice AL L.length cL) rfl (by kernel_rfl) (by kernel_rfl) (by kernel_rfl) (fun c a w h => h) (Or.inl ⟨by rfl, fun w _ => by kernel_rfl⟩) hS ?_
  try simp only [Act.put, List.setIfInBounds_toArray, List.set_cons_zero, List.set_cons_succ]
  refine wpAnyH_take (i := 8) (oi := ⟨some 73, _, _, _, _, _⟩) (v := .agg dc) rfl (by kernel_rfl) (by kernel_rfl) (by kernel_rfl) (fun c a w h => h) (yieldsIf_load_blk (by rfl) 27 (.tmp 17) rfl w5.heap.size rfl 27 dc _ (fun w h => h.1) Try.underlying27 rfl sd) hS ?_
  try simp only [Act.put, List.setIfInBounds_toArray, List.set_cons_zero, List.set_cons_succ]
  refine wpAnyH_take (i := 9) (oi := ⟨some 74, _, _, _, _, _⟩) (v := .agg ac) rfl (by kernel_rfl) (by kernel_rfl) (by kernel_rfl) (fun c a w h => h) (yieldsIf_load_blk (by rfl) 27 (.tmp 18) rfl (w5.heap.size + 1) rfl 27 ac _ (fun w h => h.2.1) Try.underlying27 rfl sa) hS ?_
  try simp only [Act.put, List.setIfInBounds_toArray, List.set_cons_zero, List.set_cons_succ]
  refine wpAnyH_ready (rs := [10]) (by kernel_rfl) (by simp) ?_
  refine AllReadyH.cons rfl (fun K' hK' => ?_) AllReadyH.nil
  go_simp
  refine (KRD.out AL cL L.length L 0 0 _ rfl HLB.out hRS.rl (by omega) (by omega) (by omega) (by omega) (by omega) hRS.td hRS.ta).mono ?_
  rintro e w18 ⟨rfl, hb⟩
  replace hRS := hRS.below hb
  replace hS := hRS.s
  refine hK'.out _ _ hS (fun hS5 => ?_)
  clear hK' K' hS5 hb
  try simp only [Act.put, List.setIfInBounds_toArray, List.set_cons_zero, List.set_cons_succ]
  refine wpAnyH_take (i := 11) (oi := ⟨some 76, _, _, _, _, _⟩) (v := .bool true) rfl (by kernel_rfl) (by kernel_rfl) (by kernel_rfl) (fun c a w h => h) (Or.inl ⟨by rfl, fun w _ => by kernel_rfl⟩) hS ?_
  try simp only [Act.put, List.setIfInBounds_toArray, List.set_cons_zero, List.set_cons_succ]
  refine wpAnyH_take (i := 12) (oi := ⟨some 77, _, _, _, _, _⟩) (v := .bool true) rfl (by kernel_rfl) (by kernel_rfl) (by kernel_rfl) (fun c a w h => h) (Or.inl ⟨by rfl, fun w _ => by kernel_rfl⟩) hS ?_
  try simp only [Act.put, List.setIfInBounds_toArray, List.set_cons_zero, List.set_cons_succ]
  refine wpAnyH_take (i := 13) (oi := ⟨some 78, _, _, _, _, _⟩) (v := .slice (some ⟨gM, 0, none⟩) M.length cM) rfl (by kernel_rfl) (by kernel_rfl) (by kernel_rfl) (fun c a w h => h) (Or.inl ⟨by rfl, fun w _ => by kernel_rfl⟩) hS ?_
  try simp only [Act.put, List.setIfInBounds_toArray, List.set_cons_zero, List.set_cons_succ]
  refine wpAnyH_take (i := 14) (oi := ⟨some 79, _, _, _, _, _⟩) (v := .int .u8 k) rfl (by kernel_rfl) (by kernel_rfl) (by kernel_rfl) (fun c a w h => h) (Or.inl ⟨by rfl, fun w _ => by kernel_rfl⟩) hS ?_
  try simp only [Act.put, List.setIfInBounds_toArray, List.set_cons_zero, List.set_cons_succ]
  refine wpAnyH_take (i := 15) (oi := ⟨some 80, _, _, _, _, _⟩) (v := .int .i64 (IntKind.i64.wrap k)) rfl (by kernel_rfl) (by kernel_rfl) (by kernel_rfl) (fun c a w h => h) (Or.inl ⟨by rfl, fun w _ => by kernel_rfl⟩) hS ?_
  try simp only [Act.put, List.setIfInBounds_toArray, List.set_cons_zero, List.set_cons_succ]
  rw [hwk]
  refine wpAnyH_take (i := 16) (oi := ⟨some 81, _, _, _, _, _⟩) (v := .int .i64 (IntKind.i64.wrap (k - 9))) rfl (by kernel_rfl) (by kernel_rfl) (by kernel_rfl) (fun c a w h => h) (Or.inl ⟨by rfl, fun w _ => by kernel_rfl⟩) hS ?_
  try simp only [Act.put, List.setIfInBounds_toArray, List.set_cons_zero, List.set_cons_succ]
  rw [hwk9]
  refine wpAnyH_take (i := 17) (oi := ⟨some 82, _, _, _, _, _⟩) (v := .agg dc) rfl (by kernel_rfl) (by kernel_rfl) (by kernel_rfl) (fun c a w h => h) (yieldsIf_load_blk (by rfl) 27 (.tmp 17) rfl w5.heap.size rfl 27 dc _ (fun w h => h.1) Try.underlying27 rfl sd) hS ?_
  try simp only [Act.put, List.setIfInBounds_toArray, List.set_cons_zero, List.set_cons_succ]
  refine wpAnyH_take (i := 18) (oi := ⟨some 83, _, _, _, _, _⟩) (v := .agg ac) rfl (by kernel_rfl) (by kernel_rfl) (by kernel_rfl) (fun c a w h => h) (yieldsIf_load_blk (by rfl) 27 (.tmp 18) rfl (w5.heap.size + 1) rfl 27 ac _ (fun w h => h.2.1) Try.underlying27 rfl sa) hS ?_
  try simp only [Act.put, List.setIfInBounds_toArray, List.set_cons_zero, List.set_cons_succ]
  refine wpAnyH_ready (rs := [19]) (by kernel_rfl) (by simp) ?_
  refine AllReadyH.cons rfl (fun K' hK' => ?_) AllReadyH.nil
  go_simp
  refine (KRD.out (some ⟨gM, 0, none⟩) cM M.length (M.set ix v) 0 (k - 9) _ HML2.out HBY2.out hRS.rm (by omega) (by omega) (by omega) (by omega) (by omega) hRS.td hRS.ta).mono ?_
  rintro e w19 ⟨rfl, hb⟩
  replace hRS := hRS.below hb
  replace hS := hRS.s
  refine hK'.out _ _ hS (fun hS5 => ?_)
  clear hK' K' hS5 hb
  try simp only [Act.put, List.setIfInBounds_toArray, List.set_cons_zero, List.set_cons_succ]
  refine wpAnyH_take (i := 20) (oi := ⟨some 85, _, _, _, _, _⟩) (v := .bool true) rfl (by kernel_rfl) (by kernel_rfl) (by kernel_rfl) (fun c a w h => h) (Or.inl ⟨by rfl, fun w _ => by kernel_rfl⟩) hS ?_
  try simp only [Act.put, List.setIfInBounds_toArray, List.set_cons_zero, List.set_cons_succ]
  refine wpAnyH_take (i := 21) (oi := ⟨some 86, _, _, _, _, _⟩) (v := .bool true) rfl (by kernel_rfl) (by kernel_rfl) (by kernel_rfl) (fun c a w h => h) (Or.inl ⟨by rfl, fun w _ => by kernel_rfl⟩) hS ?_
  try simp only [Act.put, List.setIfInBounds_toArray, List.set_cons_zero, List.set_cons_succ]
  refine wpAnyH_take (i := 22) (oi := ⟨some 87, _, _, _, _, _⟩) (v := .slice AL L.length cL) rfl (by kernel_rfl) (by kernel_rfl) (by kernel_rfl) (fun c a w h => h) (Or.inl ⟨by rfl, fun w _ => by kernel_rfl⟩) hS ?_
  try simp only [Act.put, List.setIfInBounds_toArray, List.set_cons_zero, List.set_cons_succ]
  refine wpAnyH_take (i := 23) (oi := ⟨some 88, _, _, _, _, _⟩) (v := .int .u16 wv) rfl (by kernel_rfl) (by kernel_rfl) (by kernel_rfl) (fun c a w h => h) (Or.inl ⟨by rfl, fun w _ => by kernel_rfl⟩) hS ?_
  try simp only [Act.put, List.setIfInBounds_toArray, List.set_cons_zero, List.set_cons_succ]
  refine wpAnyH_take (i := 24) (oi := ⟨some 89, _, _, _, _, _⟩) (v := .int .i64 (IntKind.i64.wrap wv)) rfl (by kernel_rfl) (by kernel_rfl) (by kernel_rfl) (fun c a w h => h) (Or.inl ⟨by rfl, fun w _ => by kernel_rfl⟩) hS ?_
  try simp only [Act.put, List.setIfInBounds_toArray, List.set_cons_zero, List.set_cons_succ]
  rw [hww]
  refine wpAnyH_take (i := 25) (oi := ⟨some 90, _, _, _, _, _⟩) (v := .slice AL L.length cL) rfl (by kernel_rfl) (by kernel_rfl) (by kernel_rfl) (fun c a w h => h) (Or.inl ⟨by rfl, fun w _ => by kernel_rfl⟩) hS ?_
  try simp only [Act.put, List.setIfInBounds_toArray, List.set_cons_zero, List.set_cons_succ]
  refine wpAnyH_take (i := 26) (oi := ⟨some 91, _, _, _, _, _⟩) (v := .int .i64 L.length) rfl (by kernel_rfl) (by kernel_rfl) (by kernel_rfl) (fun c a w h => h) (Or.inl ⟨by rfl, fun w _ => by kernel_rfl⟩) hS ?_
  try simp only [Act.put, List.setIfInBounds_toArray, List.set_cons_zero, List.set_cons_succ]
  refine wpAnyH_take (i := 27) (oi := ⟨some 92, _, _, _, _, _⟩) (v := .int .i64 (IntKind.i64.wrap ((L.length : Int) + 1))) rfl (by kernel_rfl) (by kernel_rfl) (by kernel_rfl) (fun c a w h => h) (Or.inl ⟨by rfl, fun w _ => by kernel_rfl⟩) hS ?_
  try simp only [Act.put, List.setIfInBounds_toArray, List.set_cons_zero, List.set_cons_succ]
  rw [hwl]
  refine wpAnyH_take (i := 28) (oi := ⟨some 93, _, _, _, _, _⟩) (v := .int .i64 (wv.tmod ((L.length : Int) + 1))) rfl (by kernel_rfl) (by kernel_rfl) (by kernel_rfl) (fun c a w h => h) (yieldsIf_rem (by rfl) (.tmp 89) (.tmp 92) 3 rfl wv _ rfl rfl hq0) hS ?_
  try simp only [Act.put, List.setIfInBounds_toArray, List.set_cons_zero, List.set_cons_succ]
  rw [hmt]
  refine wpAnyH_take (i := 29) (oi := ⟨some 94, _, _, _, _, _⟩) (v := .slice AL mm cL) rfl (by kernel_rfl) (by kernel_rfl) (by kernel_rfl) (fun c a w h => h) (yieldsIf_cut22 (by rfl) (.tmp 87) (.tmp 93) rfl AL L.length cL mm (by omega) rfl rfl) hS ?_
  try simp only [Act.put, List.setIfInBounds_toArray, List.set_cons_zero, List.set_cons_succ]
  refine wpAnyH_take (i := 30) (oi := ⟨some 95, _, _, _, _, _⟩) (v := .agg dc) rfl (by kernel_rfl) (by kernel_rfl) (by kernel_rfl) (fun c a w h => h) (yieldsIf_load_blk (by rfl) 27 (.tmp 17) rfl w5.heap.size rfl 27 dc _ (fun w h => h.1) Try.underlying27 rfl sd) hS ?_
  try simp only [Act.put, List.setIfInBounds_toArray, List.set_cons_zero, List.set_cons_succ]
  refine wpAnyH_take (i := 31) (oi := ⟨some 96, _, _, _, _, _⟩) (v := .agg ac) rfl (by kernel_rfl) (by kernel_rfl) (by kernel_rfl) (fun c a w h => h) (yieldsIf_load_blk (by rfl) 27 (.tmp 18) rfl (w5.heap.size + 1) rfl 27 ac _ (fun w h => h.2.1) Try.underlying27 rfl sa) hS ?_
  try simp only [Act.put, List.setIfInBounds_toArray, List.set_cons_zero, List.set_cons_succ]
  refine wpAnyH_ready (rs := [32]) (by kernel_rfl) (by simp) ?_
  refine AllReadyH.cons rfl (fun K' hK' => ?_) AllReadyH.nil
  go_simp
  refine (KRD.out AL cL mm (L.take mm) 0 0 _ (by rw [List.length_take]; omega) (fun x hx => HLB.out x (List.mem_of_mem_take hx)) (reads_take hRS.rl rfl hmmL) (by omega) (by omega) (by omega) (by omega) (by omega) hRS.td hRS.ta).mono ?_
  rintro e w20 ⟨rfl, hb⟩
  replace hRS := hRS.below hb
  replace hS := hRS.s
  refine hK'.out _ _ hS (fun hS5 => ?_)
  clear hK' K' hS5 hb
  try simp only [Act.put, List.setIfInBounds_toArray, List.set_cons_zero, List.set_cons_succ]
  refine wpAnyH_take (i := 33) (oi := ⟨some 98, _, _, _, _, _⟩) (v := .bool true) rfl (by kernel_rfl) (by kernel_rfl) (by kernel_rfl) (fun c a w h => h) (Or.inl ⟨by rfl, fun w _ => by kernel_rfl⟩) hS ?_
  try simp only [Act.put, List.setIfInBounds_toArray, List.set_cons_zero, List.set_cons_succ]
  refine wpAnyH_take (i := 34) (oi := ⟨some 22, _, _, _, _, _⟩) (v := .bool true) rfl (by kernel_rfl) (by kernel_rfl) (by kernel_rfl) (fun c a w h => h) (Or.inl ⟨by rfl, fun w _ => by kernel_rfl⟩) hS ?_
  try simp only [Act.put, List.setIfInBounds_toArray, List.set_cons_zero, List.set_cons_succ]
  refine wpAnyH_done (by kernel_rfl) ?_ _
  refine hK _ _ ?_
  clear hK K
  go_wp2_with fail
  rename_i K hK
  replace hRS := hRS.drew
  have hS := hRS.s
  refine wp_region_noPanic ?_
  refine wp_region_held (S := fun w => Blk w w5.heap.size 27 dc ∧ Blk w (w5.heap.size + 1) 27 ac ∧ Blk w w9.heap.size 27 tc) (by kernel_rfl) ?_
  show wpAnyH _ _ _ _ _ _ _ _ (World.drew _)
  refine wpAnyH_take (i := 0) (oi := ⟨some 99, _, _, _, _, _⟩) (v := .bool true) rfl (by kernel_rfl) (by kernel_rfl) (by kernel_rfl) (fun c a w h => h) (Or.inl ⟨by rfl, fun w _ => by kernel_rfl⟩) hS ?_
  try simp only [Act.put, List.setIfInBounds_toArray, List.set_cons_zero, List.set_cons_succ]
  refine wpAnyH_take (i := 1) (oi := ⟨some 100, _, _, _, _, _⟩) (v := .bool true) rfl (by kernel_rfl) (by kernel_rfl) (by kernel_rfl) (fun c a w h => h) (Or.inl ⟨by rfl, fun w _ => by kernel_rfl⟩) hS ?_
  try simp only [Act.put, List.setIfInBounds_toArray, List.set_cons_zero, List.set_cons_succ]
  refine wpAnyH_take (i := 2) (oi := ⟨some 101, _, _, _, _, _⟩) (v := .slice A3 len3 c3) rfl (by kernel_rfl) (by kernel_rfl) (by kernel_rfl) (fun c a w h => h) (Or.inl ⟨by rfl, fun w _ => by kernel_rfl⟩) hS ?_
  try simp only [Act.put, List.setIfInBounds_toArray, List.set_cons_zero, List.set_cons_succ]
  refine wpAnyH_take (i := 4) (oi := ⟨some 103, _, _, _, _, _⟩) (v := .int .u16 wv) rfl (by kernel_rfl) (by kernel_rfl) (by kernel_rfl) (fun c a w h => h) (Or.inl ⟨by rfl, fun w _ => by kernel_rfl⟩) hS ?_
  try simp only [Act.put, List.setIfInBounds_toArray, List.set_cons_zero, List.set_cons_succ]
  refine wpAnyH_take (i := 5) (oi := ⟨some 104, _, _, _, _, _⟩) (v := .int .u16 (wv.tmod 9)) rfl (by kernel_rfl) (by kernel_rfl) (by kernel_rfl) (fun c a w h => h) (Or.inl ⟨by rfl, fun w _ => by kernel_rfl⟩) hS ?_
  try simp only [Act.put, List.setIfInBounds_toArray, List.set_cons_zero, List.set_cons_succ]
  refine wpAnyH_take (i := 6) (oi := ⟨some 105, _, _, _, _, _⟩) (v := .int .i64 (IntKind.i64.wrap (wv.tmod 9))) rfl (by kernel_rfl) (by kernel_rfl) (by kernel_rfl) (fun c a w h => h) (Or.inl ⟨by rfl, fun w _ => by kernel_rfl⟩) hS ?_
  try simp only [Act.put, List.setIfInBounds_toArray, List.set_cons_zero, List.set_cons_succ]
  rw [hw9]
  refine wpAnyH_take (i := 7) (oi := ⟨some 106, _, _, _, _, _⟩) (v := .agg tc) rfl (by kernel_rfl) (by kernel_rfl) (by kernel_rfl) (fun c a w h => h) (yieldsIf_load_blk (by rfl) 27 (.tmp 19) rfl w9.heap.size rfl 27 tc _ (fun w h => h.2.2) Try.underlying27 rfl st) hS ?_
  try simp only [Act.put, List.setIfInBounds_toArray, List.set_cons_zero, List.set_cons_succ]
  refine wpAnyH_take (i := 8) (oi := ⟨some 107, _, _, _, _, _⟩) (v := .agg tc) rfl (by kernel_rfl) (by kernel_rfl) (by kernel_rfl) (fun c a w h => h) (yieldsIf_load_blk (by rfl) 27 (.tmp 19) rfl w9.heap.size rfl 27 tc _ (fun w h => h.2.2) Try.underlying27 rfl st) hS ?_
  try simp only [Act.put, List.setIfInBounds_toArray, List.set_cons_zero, List.set_cons_succ]
  refine wpAnyH_ready (rs := [3]) (by kernel_rfl) (by simp) ?_
  refine AllReadyH.cons rfl (fun K' hK' => ?_) AllReadyH.nil
  go_simp
  refine (KW.out _ hRS.b).mono ?_
  rintro e w21 ⟨vr, rs, rfl, hrsb, hrsl, hownR, hb⟩
  obtain ⟨AR, cR, rfl, hrR⟩ := own_form hownR
  replace hRS := hRS.below hb
  replace hS := hRS.s
  refine hK'.out _ _ hS (fun hS5 => ?_)
  clear hK' K' hS5 hb hownR
  try simp only [Act.put, List.setIfInBounds_toArray, List.set_cons_zero, List.set_cons_succ]
  refine wpAnyH_ready (rs := [9]) (by kernel_rfl) (by simp) ?_
  refine AllReadyH.cons rfl (fun K' hK' => ?_) AllReadyH.nil
  go_simp
  refine (KRT.out AR cR rs.length rs (wv % 9) 0 _ rfl hrsb hrR (by omega) (by omega) (by omega) (by omega) (by omega) hRS.tt).mono ?_
  rintro e w22 ⟨rfl, hb⟩
  replace hRS := hRS.below hb
  replace hS := hRS.s
  refine hK'.out _ _ hS (fun hS5 => ?_)
  clear hK' K' hS5 hb
  try simp only [Act.put, List.setIfInBounds_toArray, List.set_cons_zero, List.set_cons_succ]
  refine wpAnyH_take (i := 10) (oi := ⟨some 109, _, _, _, _, _⟩) (v := .bool true) rfl (by kernel_rfl) (by kernel_rfl) (by kernel_rfl) (fun c a w h => h) (Or.inl ⟨by rfl, fun w _ => by kernel_rfl⟩) hS ?_
  try simp only [Act.put, List.setIfInBounds_toArray, List.set_cons_zero, List.set_cons_succ]
  refine wpAnyH_take (i := 11) (oi := ⟨some 110, _, _, _, _, _⟩) (v := .bool true) rfl (by kernel_rfl) (by kernel_rfl) (by kernel_rfl) (fun c a w h => h) (Or.inl ⟨by rfl, fun w _ => by kernel_rfl⟩) hS ?_
  try simp only [Act.put, List.setIfInBounds_toArray, List.set_cons_zero, List.set_cons_succ]
  refine wpAnyH_take (i := 12) (oi := ⟨some 111, _, _, _, _, _⟩) (v := .slice A len c) rfl (by kernel_rfl) (by kernel_rfl) (by kernel_rfl) (fun c a w h => h) (Or.inl ⟨by rfl, fun w _ => by kernel_rfl⟩) hS ?_
  try simp only [Act.put, List.setIfInBounds_toArray, List.set_cons_zero, List.set_cons_succ]
  refine wpAnyH_take (i := 13) (oi := ⟨some 112, _, _, _, _, _⟩) (v := .int .u16 wv) rfl (by kernel_rfl) (by kernel_rfl) (by kernel_rfl) (fun c a w h => h) (Or.inl ⟨by rfl, fun w _ => by kernel_rfl⟩) hS ?_
  try simp only [Act.put, List.setIfInBounds_toArray, List.set_cons_zero, List.set_cons_succ]
  refine wpAnyH_take (i := 14) (oi := ⟨some 113, _, _, _, _, _⟩) (v := .int .u16 (wv.tmod 9)) rfl (by kernel_rfl) (by kernel_rfl) (by kernel_rfl) (fun c a w h => h) (Or.inl ⟨by rfl, fun w _ => by kernel_rfl⟩) hS ?_
  try simp only [Act.put, List.setIfInBounds_toArray, List.set_cons_zero, List.set_cons_succ]
  refine wpAnyH_take (i := 15) (oi := ⟨some 114, _, _, _, _, _⟩) (v := .int .i64 (IntKind.i64.wrap (wv.tmod 9))) rfl (by kernel_rfl) (by kernel_rfl) (by kernel_rfl) (fun c a w h => h) (Or.inl ⟨by rfl, fun w _ => by kernel_rfl⟩) hS ?_
  try simp only [Act.put, List.setIfInBounds_toArray, List.set_cons_zero, List.set_cons_succ]
  rw [hw9]
  refine wpAnyH_take (i := 16) (oi := ⟨some 115, _, _, _, _, _⟩) (v := .agg ac) rfl (by kernel_rfl) (by kernel_rfl) (by kernel_rfl) (fun c a w h => h) (yieldsIf_load_blk (by rfl) 27 (.tmp 18) rfl (w5.heap.size + 1) rfl 27 ac _ (fun w h => h.2.1) Try.underlying27 rfl sa) hS ?_
  try simp only [Act.put, List.setIfInBounds_toArray, List.set_cons_zero, List.set_cons_succ]
  refine wpAnyH_take (i := 17) (oi := ⟨some 116, _, _, _, _, _⟩) (v := .agg dc) rfl (by kernel_rfl) (by kernel_rfl) (by kernel_rfl) (fun c a w h => h) (yieldsIf_load_blk (by rfl) 27 (.tmp 17) rfl w5.heap.size rfl 27 dc _ (fun w h => h.1) Try.underlying27 rfl sd) hS ?_
  try simp only [Act.put, List.setIfInBounds_toArray, List.set_cons_zero, List.set_cons_succ]
  refine wpAnyH_ready (rs := [18]) (by kernel_rfl) (by simp) ?_
  refine AllReadyH.cons rfl (fun K' hK' => ?_) AllReadyH.nil
  go_simp
  refine (KRX.out A c len bs (wv % 9) 5 _ HLEN.out HB.out hRS.rb (by omega) (by omega) (by omega) (by omega) (by omega) hRS.ta hRS.td).mono ?_
  rintro e w23 ⟨rfl, hb⟩
  replace hRS := hRS.below hb
  replace hS := hRS.s
  refine hK'.out _ _ hS (fun hS5 => ?_)
  clear hK' K' hS5 hb
  try simp only [Act.put, List.setIfInBounds_toArray, List.set_cons_zero, List.set_cons_succ]
  refine wpAnyH_take (i := 19) (oi := ⟨some 118, _, _, _, _, _⟩) (v := .bool true) rfl (by kernel_rfl) (by kernel_rfl) (by kernel_rfl) (fun c a w h => h) (Or.inl ⟨by rfl, fun w _ => by kernel_rfl⟩) hS ?_
  try simp only [Act.put, List.setIfInBounds_toArray, List.set_cons_zero, List.set_cons_succ]
  refine wpAnyH_take (i := 20) (oi := ⟨some 16, _, _, _, _, _⟩) (v := .bool true) rfl (by kernel_rfl) (by kernel_rfl) (by kernel_rfl) (fun c a w h => h) (Or.inl ⟨by rfl, fun w _ => by kernel_rfl⟩) hS ?_
  try simp only [Act.put, List.setIfInBounds_toArray, List.set_cons_zero, List.set_cons_succ]
  refine wpAnyH_done (by kernel_rfl) ?_ _
  refine hK _ _ ?_
  clear hK K
  go_wp2_with fail
  go_ret
  exact ⟨rfl, hRS.b⟩
theorem bounds_i64' {n : Int} (h : (Lit.int .i64 n).wf = true) : -9223372036854775808 ≤ n ∧ n ≤ 9223372036854775807 := by
  simp [Lit.wf, IntKind.min, IntKind.max, IntKind.signed, IntKind.bits] at h; omega
theorem reads_walk (A : Option Addr) (len cap : Nat) (zs : List Int) (at_ last : Int) (A3 : Option Addr) (len3 cap3 : Nat) (zs3 : List Int) (A4 : Option Addr) (len4 cap4 : Nat) (zs4 : List Int) (k wv v : Int) (W : World)
    (h : IsRow .u8 W A len cap zs) (ha : (Lit.int .i64 at_).wf = true) (hl : (Lit.int .i64 last).wf = true) (h3 : IsRow .u8 W A3 len3 cap3 zs3) (h4 : IsRow .u8 W A4 len4 cap4 zs4)
    (hk : (Lit.int .u8 k).wf = true) (hw : (Lit.int .u16 wv).wf = true) (hv : (Lit.int .u8 v).wf = true) :
    Calls Try.prog 3 #[.slice A len cap, .int .i64 at_, .int .i64 last, .slice A3 len3 cap3, .slice A4 len4 cap4, .int .u8 k, .int .u16 wv, .int .u8 v] W fun e w' => e = .returned (.bool true) ∧ Below W.heap.size W w' := by
  obtain ⟨bs, b1, b2, b3, bb, br⟩ := row_reads h
  obtain ⟨bs3, c1, c2, c3, cb, cr⟩ := row_reads h3
  obtain ⟨bs4, d1, d2, d3, db, dr⟩ := row_reads h4
  have := bounds_i64' ha
  have := bounds_i64' hl
  have := bounds_u8 hk
  have := bounds_u16 hw
  have := bounds_u8 hv
  unfold maxLen at b3 c3 d3
  exact breads_any A cap len bs at_ last A3 cap3 len3 bs3 A4 cap4 len4 k wv v W (fun w hb => table10_any A4 cap4 len4 bs4 w d1 db ((dr.below hb).more hb.size) (by omega)) b1 bb br (by omega) c1 cb cr (by omega) (by omega) (by omega) (by omega) (by omega) (by omega) (by omega) (by omega) (by omega) (by omega) (by omega)
end Go.Proofs.Ytbjcjddaaegheaa
