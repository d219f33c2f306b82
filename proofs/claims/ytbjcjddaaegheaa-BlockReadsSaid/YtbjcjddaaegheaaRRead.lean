/- ref13.Read: of any bytes, by any two tables. -/
import Derived.Test.YtbjcjddaaegheaaRReadM
import Derived.Test.YtbjcjddaaegheaaBRead
import Derived.Test.YtbjcjddaaegheaaRcodes
namespace Go.Proofs.Ytbjcjddaaegheaa
open Go.RowKit
set_option maxRecDepth 100000 in
set_option maxHeartbeats 8000000 in
theorem rread_any (A : Option Addr) (c len : Nat) (bs : List Int) (at_ last : Int) (dct dvs act avs : List Int) (DA AA : Option Addr) (dl dcp al acp : Nat) (W : World) (hlen : bs.length = len) (hb : AreBytes bs) (hr : Reads W W.heap.size 1 A len (bytesV bs))
    (hl : len ≤ 140737488355328) (a0 : -9223372036854775808 ≤ at_) (a1 : at_ ≤ 9223372036854775807) (l0 : -9223372036854775808 ≤ last) (l1 : last ≤ 9223372036854775807)
    (hdct : dct.length = 16) (hdw : ∀ x ∈ dct, (Lit.int .i64 x).wf = true) (hdl : dvs.length = dl) (hdb : AreBytes dvs) (hdr : Reads W W.heap.size 1 DA dl (bytesV dvs)) (hdm : dl ≤ 9223372036854775807)
    (hact : act.length = 16) (haw : ∀ x ∈ act, (Lit.int .i64 x).wf = true) (hal : avs.length = al) (hab : AreBytes avs) (har : Reads W W.heap.size 1 AA al (bytesV avs)) (ham : al ≤ 9223372036854775807) :
    Calls Try.prog 22 #[.slice A len c, .int .i64 at_, .int .i64 last, .agg (tabCells dct (.slice DA dl dcp)), .agg (tabCells act (.slice AA al acp))] W (BPost W (blockRead bs at_ last dct dvs act avs)) := by
  have kd : ∀ w, Below W.heap.size W w → Calls Try.prog 25 #[.agg (tabCells dct (.slice DA dl dcp))] w fun e w' => e = .returned (.bool (checkS dct dvs)) ∧ Below w.heap.size w w' := fun w hb =>
    rcheck_any dct dvs DA dl dcp w hdct hdw hdl ((hdr.below hb).more hb.size) hdm
  have ka : ∀ w, Below W.heap.size W w → Calls Try.prog 25 #[.agg (tabCells act (.slice AA al acp))] w fun e w' => e = .returned (.bool (checkS act avs)) ∧ Below w.heap.size w w' := fun w hb =>
    rcheck_any act avs AA al acp w hact haw hal ((har.below hb).more hb.size) ham
  have cd : ∀ w, Below W.heap.size W w → Calls Try.prog 16 #[.agg (tabCells dct (.slice DA dl dcp))] w fun e w' => e = .returned (.agg (codeC (codesF dct dvs))) ∧ Below w.heap.size w w' := fun w hb =>
    rcodes_any dct dvs DA dl dcp w hdct hdw hdl hdb ((hdr.below hb).more hb.size) hdm
  have ca : ∀ w, Below W.heap.size W w → Calls Try.prog 16 #[.agg (tabCells act (.slice AA al acp))] w fun e w' => e = .returned (.agg (codeC (codesF act avs))) ∧ Below w.heap.size w w' := fun w hb =>
    rcodes_any act avs AA al acp w hact haw hal hab ((har.below hb).more hb.size) ham
  have kcd : ∀ w, Below W.heap.size W w → Calls Try.prog 33 #[.agg #[.slice A len c, .int .i64 at_, .bool true], .agg (codeC (codesF dct dvs))] w (RPost A len c w (rcodeS bs at_ true (codesF dct dvs))) := fun w hw =>
    rcode_any A c len bs at_ true _ w hlen hb ((hr.below hw).more hw.size) hl a0 a1 (codesF_fits _ _ hdct)
  have kca : ∀ w a o, Below W.heap.size W w → -9223372036854775808 ≤ a → a ≤ 9223372036854775807 → Calls Try.prog 33 #[.agg #[.slice A len c, .int .i64 a, .bool o], .agg (codeC (codesF act avs))] w (RPost A len c w (rcodeS bs a o (codesF act avs))) := fun w a o hw a0 a1 =>
    rcode_any A c len bs a o _ w hlen hb ((hr.below hw).more hw.size) hl a0 a1 (codesF_fits _ _ hact)
  have kn : ∀ w a o n, Below W.heap.size W w → -9223372036854775808 ≤ a → a ≤ 9223372036854775807 → -9223372036854775808 ≤ n → n ≤ 9223372036854775807 → Calls Try.prog 34 #[.agg #[.slice A len c, .int .i64 a, .bool o], .int .i64 n] w (RPost A len c w (rnumS bs a o n)) := fun w a o n hw a0 a1 n0 n1 =>
    rnumber_any A c len bs a n o w hlen hb ((hr.below hw).more hw.size) hl a0 a1 n0 n1
  have hsd : (Try.prog.info? 27).map (·.size) = some (tabCells dct (.slice DA dl dcp)).size := by rw [tabCells_size _ _ hdct]; kernel_rfl
  have hsa : (Try.prog.info? 27).map (·.size) = some (tabCells act (.slice AA al acp)).size := by rw [tabCells_size _ _ hact]; kernel_rfl
  obtain ⟨dc, hdc⟩ : ∃ dc, dc = tabCells dct (.slice DA dl dcp) := ⟨_, rfl⟩
  obtain ⟨ac, hac⟩ : ∃ ac, ac = tabCells act (.slice AA al acp) := ⟨_, rfl⟩
  obtain ⟨fd, hfd⟩ : ∃ fd, fd = codesF dct dvs := ⟨_, rfl⟩
  obtain ⟨fa, hfa⟩ : ∃ fa, fa = codesF act avs := ⟨_, rfl⟩
  have hR0 : blockRead bs at_ last dct dvs act avs = if at_ < 0 ∨ checkS dct dvs = false ∨ checkS act avs = false then none else readS bs at_ last fd fa := by unfold blockRead; rw [hfd, hfa]
  rw [hR0]
  obtain ⟨R, hR⟩ : ∃ R, R = readS bs at_ last fd fa := ⟨_, rfl⟩
  rw [← hdc] at kd cd hsd ⊢
  rw [← hac] at ka ca hsa ⊢
  rw [← hfd] at cd kcd
  rw [← hfa] at ca kca
  rw [← hR]
  obtain ⟨bd, hbd⟩ : ∃ bd, bd = checkS dct dvs := ⟨_, rfl⟩
  obtain ⟨ba, hba⟩ : ∃ ba, ba = checkS act avs := ⟨_, rfl⟩
  rw [← hbd] at kd ⊢
  rw [← hba] at ka ⊢
  have KD := Lib.hid kd
  have KA := Lib.hid ka
  have CD := Lib.hid cd
  have CA := Lib.hid ca
  have KCD := Lib.hid kcd
  have KCA := Lib.hid kca
  have KN := Lib.hid kn
  have HR := Lib.hid hR
  have HLEN := Lib.hid hlen
  have hys := size43 fa
  have hca := codeC_one fa
  clear kd ka cd ca kcd kca kn hdc hac hfd hfa hR0 hR hbd hba hdw haw hdct hact hdl hal hdb hab hdr har hlen hb hr
  have hz := zero33
  have hz43 : ∀ w, (zeroValue 43).run Try.prog w = .ok (.agg (codeC fun _ => (0, 0))) w := fun w => by rw [codeC_zero]; exact zero43 w
  have hbld : ∀ (a : Act) (w : World) (s : Nat) (ps : String), (execOp a.eval { dst := some s, op := Op.build 33 #[], type := 33, pos := ps, after := #[], guard := none }).run Try.prog w = .ok (.value (.agg (intsC (List.replicate 64 0)))) w := fun a w s ps => by kernel_rfl
  have hst := Fst.start W dc ac (intsC (List.replicate 64 0))
  have hz33 := size33 (List.replicate 64 0) (by simp)
  have hone := intsC_one (List.replicate 64 0)
  obtain ⟨z0, hz0⟩ : ∃ z0, z0 = intsC (List.replicate 64 0) := ⟨_, rfl⟩
  rw [← hz0] at hz hst hz33 hone hbld
  have HZ0 := Lib.hid hz0
  have HBL := Lib.hid hbld
  obtain ⟨cc, hcc⟩ : ∃ cc, cc = codeC fa := ⟨_, rfl⟩
  have HCC := Lib.hid hcc
  rw [← hcc] at hys hca
  clear hz0 hbld hcc
  by_cases hneg : at_ < 0
  · have hif : (if at_ < 0 ∨ bd = false ∨ ba = false then (none : Option (List Int × Int)) else R) = none := if_pos (.inl hneg)
    rw [hif]
    clear hif
    have hzb := hst.z
    go_enter Try.func22, Try.ntmps22
    go_wp2_with (first | (refine wpList_ran (o := ⟨some 37, _, _, _, _, _⟩) rfl _ (HBL.out _ _ _ _) ?_) | (refine wpList_store_blk rfl 33 (.tmp 10) (.tmp 37) rfl (W.heap.size + 1 + 1) rfl 33 _ _ rfl hzb hz33 rfl hone ?_; intro w1 hz1 hg1 hs1))
    have hst1 := hst.stored hz1 hg1
    rw [HZ0.out] at hz1
    exact bodyPost_ret (results_blk_tmp2 (P := Try.prog) (fn := Try.f22) rfl _ _ (W.heap.size + 1 + 1) 33 _ _ rfl hz1 Try.underlying33 rfl (size33 _ (by simp))) rfl ⟨rfl, hst1.b⟩
  · have hneg' : decide (at_ < 0) = false := decide_eq_false hneg
    have hd0 := hst.d
    cases bd with
    | false =>
      have hif : (if at_ < 0 ∨ false = false ∨ ba = false then (none : Option (List Int × Int)) else R) = none := if_pos (.inr (.inl rfl))
      rw [hif]
      clear hif
      go_enter Try.func22, Try.ntmps22
      go_wp2_with (first | (refine wpList_load_blk_want rfl 27 (.tmp 8) rfl W.heap.size rfl 27 _ _ hd0 Try.underlying27 rfl hsd ?_) | (go_at_call 25; refine (KD.out _ hst.b).mono ?_; rintro e w1 ⟨rfl, hb1⟩; have hst1 := hst.below hb1; have hzb := hst1.z; clear hb1 hst hd0) | (refine wpList_ran (o := ⟨some 37, _, _, _, _, _⟩) rfl _ (HBL.out _ _ _ _) ?_) | (refine wpList_store_blk rfl 33 (.tmp 10) (.tmp 37) rfl (W.heap.size + 1 + 1) rfl 33 _ _ rfl hzb hz33 rfl hone ?_; intro w2 hz1 hg1 hs1))
      have hst2 := hst1.stored hz1 hg1
      rw [HZ0.out] at hz1
      exact bodyPost_ret (results_blk_tmp2 (P := Try.prog) (fn := Try.f22) rfl _ _ (W.heap.size + 1 + 1) 33 _ _ rfl hz1 Try.underlying33 rfl (size33 _ (by simp))) rfl ⟨rfl, hst2.b⟩
    | true =>
      cases ba with
      | false =>
        have hif : (if at_ < 0 ∨ true = false ∨ false = false then (none : Option (List Int × Int)) else R) = none := if_pos (.inr (.inr rfl))
        rw [hif]
        clear hif
        go_enter Try.func22, Try.ntmps22
        go_wp2_with (refine wpList_load_blk_want rfl 27 (.tmp 8) rfl W.heap.size rfl 27 _ _ hd0 Try.underlying27 rfl hsd ?_)
        refine (KD.out _ hst.b).mono ?_
        rintro e w1 ⟨rfl, hb1⟩
        have hst1 := hst.below hb1
        have ha1 := hst1.a
        clear hb1 hst hd0
        go_wp2_with (refine wpList_load_blk_want rfl 27 (.tmp 9) rfl (W.heap.size + 1) rfl 27 _ _ ha1 Try.underlying27 rfl hsa ?_)
        refine (KA.out _ hst1.b).mono ?_
        rintro e w2 ⟨rfl, hb2⟩
        have hst2 := hst1.below hb2
        have hzb := hst2.z
        clear hb2 hst1 ha1
        go_wp2_with (first | (refine wpList_ran (o := ⟨some 37, _, _, _, _, _⟩) rfl _ (HBL.out _ _ _ _) ?_) | (refine wpList_store_blk rfl 33 (.tmp 10) (.tmp 37) rfl (W.heap.size + 1 + 1) rfl 33 _ _ rfl hzb hz33 rfl hone ?_; intro w3 hz1 hg1 hs1))
        have hst3 := hst2.stored hz1 hg1
        rw [HZ0.out] at hz1
        exact bodyPost_ret (results_blk_tmp2 (P := Try.prog) (fn := Try.f22) rfl _ _ (W.heap.size + 1 + 1) 33 _ _ rfl hz1 Try.underlying33 rfl (size33 _ (by simp))) rfl ⟨rfl, hst3.b⟩
      | true =>
        have hif : (if at_ < 0 ∨ true = false ∨ true = false then (none : Option (List Int × Int)) else R) = R := if_neg (by simp; omega)
        rw [hif]
        clear hif
        have CA2 : Hid (∀ w, Below W.heap.size W w → Calls Try.prog 16 #[.agg ac] w fun e w' => e = .returned (.agg cc) ∧ Below w.heap.size w w') := Lib.hid (by rw [HCC.out]; exact CA.out)
        have KCA2 : Hid (∀ w a o, Below W.heap.size W w → -9223372036854775808 ≤ a → a ≤ 9223372036854775807 → Calls Try.prog 33 #[.agg #[.slice A len c, .int .i64 a, .bool o], .agg cc] w (RPost A len c w (rcodeS bs a o fa))) := Lib.hid (by rw [HCC.out]; exact KCA.out)
        exact rread_main A c len bs at_ last W hl a0 a1 l0 l1 dc ac cc z0 fd fa R hsd hsa KD KA CD CA2 KCD KCA2 KN HR HLEN hys hca hz hz43 hz33 hone HZ0 HBL hst (by omega) hneg'
end Go.Proofs.Ytbjcjddaaegheaa
