/- law13.reads: both Reads say the same. -/
import Derived.Test.YtbjcjddaaegheaaRRead
import Derived.Test.YtbjcjddaaegheaaTables
import Derived.Test.YtbjcjddaaegheaaEqArr
import Derived.Test.YtbjcjddaaegheaaKnown
namespace Go.Proofs.Ytbjcjddaaegheaa
open Go.RowKit

theorem rread_at (A : Option Addr) (c len : Nat) (bs : List Int) (at_ last : Int) (dc ac : Array Value) (dct dvs act avs : List Int) (W : World) (hlen : bs.length = len) (hb : AreBytes bs) (hr : Reads W W.heap.size 1 A len (bytesV bs))
    (hl : len ≤ 140737488355328) (a0 : -9223372036854775808 ≤ at_) (a1 : at_ ≤ 9223372036854775807) (l0 : -9223372036854775808 ≤ last) (l1 : last ≤ 9223372036854775807)
    (hd : GoodTab dct dvs) (hdt : TabAt W dc dct dvs) (ha : GoodTab act avs) (hat : TabAt W ac act avs) :
    Calls Try.prog 22 #[.slice A len c, .int .i64 at_, .int .i64 last, .agg dc, .agg ac] W (BPost W (blockRead bs at_ last dct dvs act avs)) := by
  obtain ⟨DA, dcp, rfl, hdr⟩ := hdt
  obtain ⟨AA, acp, rfl, har⟩ := hat
  exact rread_any A c len bs at_ last dct dvs act avs DA AA dvs.length dcp avs.length acp W hlen hb hr hl a0 a1 l0 l1 hd.len hd.wf rfl hd.by_ hdr hd.most ha.len ha.wf rfl ha.by_ har ha.most
theorem blockRead_len {bs : List Int} {at_ last : Int} {dct dvs act avs : List Int} {z : List Int} {a : Int} (h : blockRead bs at_ last dct dvs act avs = some (z, a)) : z.length = 64 := by
  unfold blockRead readS at h
  split at h
  · cases h
  · split at h
    · cases h
    · have := acS_len h
      rw [this]; simp
theorem readV_form (bs : List Int) (at_ last : Int) (dct dvs act avs : List Int) : ∃ (z : List Int) (a : Int) (ok : Bool), z.length = 64 ∧ readV (blockRead bs at_ last dct dvs act avs) = .tuple #[.agg (intsC z), .int .i64 a, .bool ok] := by
  cases h : blockRead bs at_ last dct dvs act avs with
  | none => exact ⟨_, 0, false, by simp, rfl⟩
  | some r => obtain ⟨z, a⟩ := r; exact ⟨z, a, true, blockRead_len h, rfl⟩

set_option maxHeartbeats 1000000 in
theorem reads_any (A : Option Addr) (c len : Nat) (bs : List Int) (at_ last : Int) (dc ac : Array Value) (dct dvs act avs : List Int) (W : World) (hlen : bs.length = len) (hb : AreBytes bs) (hr : Reads W W.heap.size 1 A len (bytesV bs))
    (hl : len ≤ 140737488355328) (a0 : -9223372036854775808 ≤ at_) (a1 : at_ ≤ 9223372036854775807) (l0 : -9223372036854775808 ≤ last) (l1 : last ≤ 9223372036854775807)
    (hd : GoodTab dct dvs) (hdt : TabAt W dc dct dvs) (ha : GoodTab act avs) (hat : TabAt W ac act avs) :
    Calls Try.prog 13 #[.slice A len c, .int .i64 at_, .int .i64 last, .agg dc, .agg ac] W fun e w' => e = .returned (.bool true) ∧ Below W.heap.size W w' := by
  have K18 : ∀ w, Below W.heap.size W w → Calls Try.prog 18 #[.slice A len c, .int .i64 at_, .int .i64 last, .agg dc, .agg ac] w (BPost w (blockRead bs at_ last dct dvs act avs)) := fun w h =>
    bread_at A c len bs at_ last dc ac dct dvs act avs w hlen hb ((hr.below h).more h.size) hl a0 a1 l0 l1 hd (hdt.below h) ha (hat.below h)
  have K22 : ∀ w, Below W.heap.size W w → Calls Try.prog 22 #[.slice A len c, .int .i64 at_, .int .i64 last, .agg dc, .agg ac] w (BPost w (blockRead bs at_ last dct dvs act avs)) := fun w h =>
    rread_at A c len bs at_ last dc ac dct dvs act avs w hlen hb ((hr.below h).more h.size) hl a0 a1 l0 l1 hd (hdt.below h) ha (hat.below h)
  obtain ⟨z, a, ok, hz, hf⟩ := readV_form bs at_ last dct dvs act avs
  unfold BPost at K18 K22
  rw [hf] at K18 K22
  have sd := size27 (hdt.size hd)
  have sa := size27 (hat.size ha)
  have hs33 := size33 z hz
  have hone := intsC_one z
  obtain ⟨zc, hzc⟩ : ∃ zc, zc = intsC z := ⟨_, rfl⟩
  have hz33 := zero33
  obtain ⟨z0, hz0⟩ : ∃ z0, z0 = intsC (List.replicate 64 0) := ⟨_, rfl⟩
  have hos : z0.size = zc.size := by rw [hz0, hzc, intsC_size, intsC_size, hz]; simp
  rw [← hz0] at hz33
  have HEQ : Hid (∀ (ac : Act) (w : World), ac.eval (.tmp 37) = .agg zc → ac.eval (.tmp 38) = .agg zc → ∀ o : Oper, o.op = .binOp .eql 33 (.tmp 37) (.tmp 38) 33 → (execOp ac.eval o).run Try.prog w = .ok (.value (.bool true)) w) := Lib.hid (fun ac w h2 h3 o h1 => by
    have := run_eql33 z z hz hz w ac.eval o (.tmp 37) (.tmp 38) h1 (by rw [h2, hzc]) (by rw [h3, hzc])
    rw [this]; simp)
  rw [← hzc] at K18 K22 hs33 hone
  have KB := Lib.hid K18
  have KR := Lib.hid K22
  have HOS := Lib.hid hos
  clear K18 K22 hf hos hzc hz0 hdt hat hd ha hz hr hb
  have hD := (Blk.new W 27 dc).alloc (.cells ac 27)
  have hA := Blk.new (W.alloc (.cells dc 27)) 27 ac
  rw [World.size_alloc] at hA
  have hbe : Below W.heap.size W ((W.alloc (.cells dc 27)).alloc (.cells ac 27)) := ((Below.refl _ _).alloc (Nat.le_refl _) _).alloc (by simp) _
  go_enter Try.func13, Try.ntmps13
  go_wp2_with (first | (refine wpList_load_blk rfl 27 (.tmp 8) rfl W.heap.size rfl 27 _ _ hD Try.underlying27 rfl sd ?_) | (refine wpList_load_blk rfl 27 (.tmp 9) rfl (W.heap.size + 1) rfl 27 _ _ hA Try.underlying27 rfl sa ?_))
  go_at_call 18
  generalize (W.alloc (.cells dc 27)).alloc (.cells ac 27) = w0 at *
  refine (KB.out _ hbe).mono ?_
  rintro e w1 ⟨rfl, hb1⟩
  have hD1 := hD.below hb1 hD.lt
  have hA1 := hA.below hb1 hA.lt
  have hbe1 := hbe.trans (hb1.mono hbe.size)
  have hn1 := Blk.new w1 33 z0
  have hD1' := hD1.alloc (.cells z0 33)
  have hA1' := hA1.alloc (.cells z0 33)
  have hbe1' := hbe1.alloc hbe1.size (.cells z0 33)
  have hl1 := hA1.lt
  have hg1 := hbe1.size
  clear hD hA hbe hb1 KB
  go_wp2_with (first | (refine wpList_store_blk rfl 33 (.tmp 11) (.tmp 24) rfl w1.heap.size rfl 33 z0 zc rfl hn1 hs33 HOS.out hone ?_; intro w2 hZ2 hg2 hs2; clear hs2; have hD2 := hD1'.grown hg2 (fun e => by injection e with e; omega); have hA2 := hA1'.grown hg2 (fun e => by injection e with e; omega); have hbe2 := hbe1'.grown hg2 (by simp; omega) (fun k e => by cases e; exact hg1)) | (refine wpList_load_blk rfl 27 (.tmp 8) rfl W.heap.size rfl 27 _ _ hD2 Try.underlying27 rfl sd ?_) | (refine wpList_load_blk rfl 27 (.tmp 9) rfl (W.heap.size + 1) rfl 27 _ _ hA2 Try.underlying27 rfl sa ?_))
  go_at_call 22
  refine (KR.out _ hbe2).mono ?_
  rintro e w3 ⟨rfl, hb3⟩
  have hZ3 := hZ2.below hb3 hZ2.lt
  have hbe3 := hbe2.trans (hb3.mono hbe2.size)
  have hn3 := Blk.new w3 33 z0
  have hZ3' := hZ3.alloc (.cells z0 33)
  have hbe3' := hbe3.alloc hbe3.size (.cells z0 33)
  have hl3 := hZ3.lt
  have hg3' := hbe3.size
  clear hD1 hA1 hbe1 hD1' hA1' hbe1' hn1 hg2 hb3 hZ2 hbe2 KR
  generalize w1.heap.size = g1 at *
  go_wp2_with (first | (refine wpList_store_blk rfl 33 (.tmp 14) (.tmp 34) rfl w3.heap.size rfl 33 z0 zc rfl hn3 hs33 HOS.out hone ?_; intro w4 hX4 hg4 hs4; clear hs4; have hZ4 := hZ3'.grown hg4 (fun e => by injection e with e; omega); have hbe4 := hbe3'.grown hg4 (by simp; omega) (fun k e => by cases e; exact hg3')) | (refine wpList_load_blk rfl 33 (.tmp 11) rfl g1 rfl 33 _ _ hZ4 Try.underlying33 rfl hs33 ?_) | (refine wpList_load_blk rfl 33 (.tmp 14) rfl w3.heap.size rfl 33 _ _ hX4 Try.underlying33 rfl hs33 ?_) | (refine wpList_ran_want rfl _ (HEQ.out _ _ rfl rfl _ rfl) ?_))
  go_ret
  exact ⟨rfl, hbe4⟩
end Go.Proofs.Ytbjcjddaaegheaa
