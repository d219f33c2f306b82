/- (*reader).read: a block, or it panics. -/
import Derived.Test.YtbjcjddaaegheaaReadS
namespace Go.Proofs.Ytbjcjddaaegheaa
open Go.RowKit

theorem grownBy_then {a b c : World} {row row' : Option Nat} (h : a.grownBy b row) (k : b.grownBy c row') (hr : ∀ j, row' = some j → a.heap.size ≤ j ∨ row = some j) : a.grownBy c row :=
  ⟨k.os.trans h.os, k.tape.trans h.tape, k.output.trans h.output, Nat.le_trans h.size k.size, fun i hi hne =>
    (k.block i (Nat.lt_of_lt_of_le hi h.size) (fun e => by
      rcases hr i e.symm with h1 | h1
      · omega
      · exact hne h1.symm)).trans (h.block i hi hne)⟩
def ReadPost (W : World) (g : Nat) (A : Option Addr) (len c : Nat) (R : Option (List Int × Int)) (e : Ending) (w' : World) : Prop :=
  match R with
  | some (z, a) => Took W g A len c a (.agg (intsC z)) e w'
  | none => Fell W g e w'
/-- where a read stands: the boxes of its codes, the block that it fills, the reader -/
structure St (W : World) (g : Nat) (A : Option Addr) (len c : Nat) (cd ca : Array Value) (at_ : Int) (z : List Int) (w : World) : Prop where
  gl : g < W.heap.size
  d : Blk w W.heap.size 43 cd
  a : Blk w (W.heap.size + 1) 43 ca
  z : Blk w (W.heap.size + 1 + 1) 33 (intsC z)
  r : Rd w g A len c at_
  w : W.grownBy w (some g)
theorem St.took {W : World} {g : Nat} {A : Option Addr} {len c : Nat} {cd ca : Array Value} {a a' : Int} {z : List Int} {w w' : World} (h : St W g A len c cd ca a z w) (hg : w.grownBy w' (some g)) (hr : Rd w' g A len c a') : St W g A len c cd ca a' z w' :=
  have := h.gl
  ⟨h.gl, h.d.grown hg (fun e => by injection e with e; omega), h.a.grown hg (fun e => by injection e with e; omega), h.z.grown hg (fun e => by injection e with e; omega), hr, h.w.trans hg⟩
theorem St.setz {W : World} {g : Nat} {A : Option Addr} {len c : Nat} {cd ca : Array Value} {a : Int} {z : List Int} {w : World} (h : St W g A len c cd ca a z w) (i : Nat) (x : Int) : St W g A len c cd ca a (z.set i x) (w.setCell ⟨W.heap.size + 1 + 1, i, none⟩ (.int .i64 x)) := by
  have := h.gl
  refine ⟨h.gl, h.d.far (by simp; omega) _, h.a.far (by simp) _, ?_, h.r.far (by simp; omega) _, grownBy_then h.w (grownBy_set w (W.heap.size + 1 + 1) i _) (fun j e => by injection e with e; omega)⟩
  rw [← intsC_set]; exact h.z.set_ i _
theorem St.start (W : World) (g : Nat) (A : Option Addr) (len c : Nat) (cd ca : Array Value) (at_ : Int) (z : List Int) (hg : Rd W g A len c at_) :
    St W g A len c cd ca at_ z (((W.alloc (.cells cd 43)).alloc (.cells ca 43)).alloc (.cells (intsC z) 33)) := by
  refine ⟨hg.lt, ((Blk.new W 43 _).alloc _).alloc _, ?_, ?_, ((hg.alloc _).alloc _).alloc _, ((World.grownBy_alloc _ _ _).trans (World.grownBy_alloc _ _ _)).trans (World.grownBy_alloc _ _ _)⟩
  · have := (Blk.new (W.alloc (.cells cd 43)) 43 ca).alloc (.cells (intsC z) 33)
    rwa [World.size_alloc] at this
  · have := Blk.new ((W.alloc (.cells cd 43)).alloc (.cells ca 43)) 33 (intsC z)
    rwa [World.size_alloc, World.size_alloc] at this
theorem St.code {W : World} {g : Nat} {A : Option Addr} {len c : Nat} {cd ca : Array Value} {a : Int} {z : List Int} {w : World} (h : St W g A len c cd ca a z w) {B : Nat} {bs : List Int} (hB : B ≤ g) (hlen : bs.length = len) (hb : AreBytes bs) (hr : Reads W B 1 A len (bytesV bs))
    (hl : len ≤ 140737488355328) (a0 : -9223372036854775808 ≤ a) (a1 : a ≤ 9223372036854775807) (f : Nat → Nat × Nat) (hf : Fits f) :
    Calls Try.prog 39 #[.pointer (some ⟨g, 0, none⟩), .agg (codeC f)] w (fun e w' => match codeS bs a f with
      | some v => e = .returned (.int .i64 v) ∧ St W g A len c cd ca (a + (f v).1) z w'
      | none => Fell W g e w') := by
  have hgl := h.gl
  have hr2 : Reads w w.heap.size 1 A len (bytesV bs) := (hr.grown h.w (by omega) (fun k e => by injection e with e; omega)).more (by have := h.w.size; omega)
  refine (code_any g A c len bs a f w hlen hb hr2 hl a0 a1 h.r hf).mono fun e w' hp => ?_
  generalize codeS bs a f = R at *
  cases R with
  | none => exact ⟨hp.1, h.w.trans hp.2⟩
  | some v => exact ⟨hp.1, h.took hp.2.1 hp.2.2⟩
theorem St.number {W : World} {g : Nat} {A : Option Addr} {len c : Nat} {cd ca : Array Value} {a : Int} {z : List Int} {w : World} (h : St W g A len c cd ca a z w) {B : Nat} {bs : List Int} (hB : B ≤ g) (hlen : bs.length = len) (hb : AreBytes bs) (hr : Reads W B 1 A len (bytesV bs))
    (hl : len ≤ 140737488355328) (a0 : -9223372036854775808 ≤ a) (a1 : a ≤ 9223372036854775807) (n : Int) (n0 : -9223372036854775808 ≤ n) (n1 : n ≤ 9223372036854775807) :
    Calls Try.prog 41 #[.pointer (some ⟨g, 0, none⟩), .int .i64 n] w (fun e w' => match peekR bs a n with
      | some x => e = .returned (.int .i64 (backS x n)) ∧ St W g A len c cd ca (a + n) z w'
      | none => Fell W g e w') := by
  have hgl := h.gl
  have hr2 : Reads w w.heap.size 1 A len (bytesV bs) := (hr.grown h.w (by omega) (fun k e => by injection e with e; omega)).more (by have := h.w.size; omega)
  cases hp : peekR bs a n with
  | none => exact (number_no g A c len bs a n w hlen hb hr2 hl a0 a1 n0 n1 h.r hp).mono fun e w' hp => ⟨hp.1, h.w.trans hp.2⟩
  | some x => exact (number_yes g A c len bs a n x w hlen hb hr2 hl a0 a1 n0 n1 h.r hp).mono fun e w' hp => ⟨hp.1, h.took hp.2.1 hp.2.2⟩
theorem backS_bd (x : Int) (n : Nat) (hn : n ≤ 31) (h0 : 0 ≤ x) (h1 : x < 2 ^ n) : -2147483648 ≤ backS x n ∧ backS x n ≤ 2147483648 := by
  have p := pow_le_int n 31 hn
  have p2 := pow_pos_int n
  unfold backS
  simp only [Int.toNat_natCast]
  split
  · omega
  · split <;> omega

theorem and_15 (v : Nat) (h : v < 256) : bits .and .i64 (v : Int) 15 = ((v % 16 : Nat) : Int) := by
  show IntKind.i64.wrap ((BitVec.ofInt 64 (v : Int) &&& BitVec.ofInt 64 ((15 : Nat) : Int)).toNat : Int) = _
  rw [BitVec.toNat_and, ofInt_u64 v (by omega), ofInt_u64 _ (by omega), IntKind.wrap_i64]
  rw [show (15 : Nat) = 2 ^ 4 - 1 from rfl, Nat.and_two_pow_sub_one_eq_mod]; omega
set_option maxRecDepth 100000 in
set_option maxHeartbeats 4000000 in
theorem read_any (g B : Nat) (A : Option Addr) (c len : Nat) (bs : List Int) (at_ last : Int) (fd fa : Nat → Nat × Nat) (W : World) (hlen : bs.length = len) (hb : AreBytes bs) (hB : B ≤ g) (hr : Reads W B 1 A len (bytesV bs))
    (hl : len ≤ 140737488355328) (a0 : -9223372036854775808 ≤ at_) (a1 : at_ ≤ 9223372036854775807) (_l0 : -9223372036854775808 ≤ last) (_l1 : last ≤ 9223372036854775807) (hg : Rd W g A len c at_) (hfd : Fits fd) (hfa : Fits fa) :
    Calls Try.prog 29 #[.pointer (some ⟨g, 0, none⟩), .int .i64 last, .agg (codeC fd), .agg (codeC fa)] W (ReadPost W g A len c (readS bs at_ last fd fa)) := by
  have hmf : ∀ (fn : Fn) (first cap : Array Value) (w : World), (Instr.makeFunc fn first cap).run Try.prog w = .ok (.func fn first cap) w := fun _ _ _ _ => rfl
  have hz := zero33
  have hz43 := size43 fd
  have hy43 := size43 fa
  have hz33 := size33 (List.replicate 64 0) (by simp)
  have hst := St.start W g A len c (codeC fd) (codeC fa) at_ (List.replicate 64 0) hg
  have hcd' := fun w a z (h : St W g A len c (codeC fd) (codeC fa) a z w) (a0 : -9223372036854775808 ≤ a) (a1 : a ≤ 9223372036854775807) => h.code hB hlen hb hr hl a0 a1 fd hfd
  have hca' := fun w a z (h : St W g A len c (codeC fd) (codeC fa) a z w) (a0 : -9223372036854775808 ≤ a) (a1 : a ≤ 9223372036854775807) => h.code hB hlen hb hr hl a0 a1 fa hfa
  have hnum := fun w a z (h : St W g A len c (codeC fd) (codeC fa) a z w) (a0 : -9223372036854775808 ≤ a) (a1 : a ≤ 9223372036854775807) => h.number hB hlen hb hr hl a0 a1
  obtain ⟨cd, hcd⟩ : ∃ cd, cd = codeC fd := ⟨_, rfl⟩
  obtain ⟨ca, hca⟩ : ∃ ca, ca = codeC fa := ⟨_, rfl⟩
  obtain ⟨z0, hz0⟩ : ∃ z0, z0 = List.replicate 64 (0 : Int) := ⟨_, rfl⟩
  rw [← hcd] at hz43 hst hcd' hca' hnum ⊢
  rw [← hca] at hy43 hst hcd' hca' hnum ⊢
  rw [← hz0] at hz hz33 hst
  have HCD := Lib.hid hcd'
  have HCA := Lib.hid hca'
  have HNUM := Lib.hid hnum
  have HZ0 := Lib.hid hz0
  have HLEN := Lib.hid hlen
  have hd0 := hst.d
  clear hcd hca hcd' hca' hnum hz0 hlen hb hr hg
  obtain ⟨R, hR⟩ : ∃ R, R = readS bs at_ last fd fa := ⟨_, rfl⟩
  rw [← hR]
  cases hc1 : codeS bs at_ fd with
  | none =>
    have hR2 : R = none := by rw [hR]; unfold readS dcS; rw [hc1]
    subst hR2
    have h1 := HCD.out _ _ _ hst a0 a1
    simp only [hc1] at h1
    have H1 := Lib.hid h1
    clear hc1 hR h1
    go_enter Try.func29, Try.ntmps29
    go_wp2_with (first | (refine wpList_load_blk rfl 43 (.tmp 6) rfl W.heap.size rfl 43 _ _ hd0 Try.underlying43 rfl hz43 ?_) | (go_at_call 39; refine H1.out.mono ?_; rintro e w' ⟨rfl, hgf⟩))
    exact ⟨rfl, rfl, hgf⟩
  | some s =>
    obtain ⟨s256, b0, b1⟩ := codeS_at hc1
    rw [HLEN.out] at b1
    obtain ⟨n0, v0⟩ := hfd s s256
    obtain ⟨a, ha⟩ : ∃ a, a = at_ + ((fd s).1 : Int) := ⟨_, rfl⟩
    have h1 := HCD.out _ _ _ hst a0 a1
    simp only [hc1] at h1
    rw [← ha] at h1 b1
    have b0' : 0 ≤ a := by omega
    have H1 := Lib.hid h1
    have HC1 := Lib.hid hc1
    have HR := Lib.hid hR
    have HA := Lib.hid ha
    clear hc1 hR ha h1 n0 v0
    by_cases h11 : 11 < s
    · have hR2 : R = none := by rw [HR.out]; unfold readS dcS; simp only [HC1.out]; rw [if_pos h11]
      subst hR2
      go_enter Try.func29, Try.ntmps29
      go_wp2_with (first | (refine wpList_load_blk rfl 43 (.tmp 6) rfl W.heap.size rfl 43 _ _ hd0 Try.underlying43 rfl hz43 ?_) | (go_at_call 39; refine H1.out.mono ?_; rintro e w' ⟨rfl, hst1⟩) | (go_at_call 40; refine (need_off (decide_eq_false (by omega)) _).mono ?_; rintro e w' ⟨rfl, rfl⟩))
      exact ⟨rfl, rfl, hst1.w⟩
    · have hn1 := HNUM.out
      cases hp1 : peekR bs a (s : Int) with
      | none =>
        have hR2 : R = none := by rw [HR.out]; unfold readS dcS; simp only [HC1.out]; rw [if_neg h11, ← HA.out, hp1]
        subst hR2
        have HP1 := Lib.hid hp1
        clear hp1 hn1
        go_enter Try.func29, Try.ntmps29
        go_wp2_with (first | (refine wpList_load_blk rfl 43 (.tmp 6) rfl W.heap.size rfl 43 _ _ hd0 Try.underlying43 rfl hz43 ?_) | (go_at_call 39; refine H1.out.mono ?_; rintro e w' ⟨rfl, hst1⟩) | (go_at_call 40; refine (need_on (decide_eq_true (by omega)) _).mono ?_; rintro e w' ⟨rfl, rfl⟩) | (go_at_call 41; have h2 := HNUM.out _ _ _ hst1 (by omega) (by omega) s (by omega) (by omega); simp only [HP1.out] at h2; refine h2.mono ?_; clear h2; rintro e w' ⟨rfl, hg2⟩))
        exact ⟨rfl, rfl, hg2⟩
      | some x =>
        obtain ⟨x0, x1, _, _, _, b2⟩ := peekR_bd hp1
        rw [HLEN.out] at b2
        have x1' : x < 2 ^ s := x1
        obtain ⟨y0, y1⟩ := backS_bd x s (by omega) x0 x1'
        obtain ⟨y, hy⟩ : ∃ y, y = backS x (s : Int) := ⟨_, rfl⟩
        obtain ⟨d, hd⟩ : ∃ d, d = wrap64 (y + last) := ⟨_, rfl⟩
        have hdc : dcS bs at_ last fd = if d < -1024 ∨ 1023 < d then none else some (d, a + (s : Int)) := by
          unfold dcS; simp only [HC1.out]; rw [if_neg h11, ← HA.out, hp1, hd, hy]
        rw [← hy] at y0 y1
        have h2 := fun w (h : St W g A len c cd ca a z0 w) => HNUM.out w a z0 h (by omega) (by omega) s (by omega) (by omega)
        simp only [hp1] at h2
        rw [← hy] at h2
        have hd2 : wrap64 (y + last) = d := hd.symm
        have H2 := Lib.hid h2
        have HY := Lib.hid hy
        have HD := Lib.hid hd
        have HDC := Lib.hid hdc
        clear hp1 hn1 h2 hy hd hdc x1 x1' x0
        by_cases hlo : d < -1024
        · have hR2 : R = none := by rw [HR.out]; unfold readS; simp only [HDC.out]; rw [if_pos (.inl hlo)]
          subst hR2
          go_enter Try.func29, Try.ntmps29
          go_wp2_with (first | (refine wpList_load_blk rfl 43 (.tmp 6) rfl W.heap.size rfl 43 _ _ hd0 Try.underlying43 rfl hz43 ?_) | (go_at_call 39; refine H1.out.mono ?_; rintro e w' ⟨rfl, hst1⟩; clear hst hd0))
          refine (need_on (decide_eq_true (by omega)) _).mono ?_
          rintro e w' ⟨rfl, rfl⟩
          go_wp2_with fail
          refine (H2.out _ hst1).mono ?_
          rintro e w2 ⟨rfl, hst2⟩
          have hzc : w2.cell? ⟨W.heap.size + 1 + 1, 0, none⟩ = some (.int .i64 0) := by rw [hst2.z.cell, HZ0.out]; rfl
          have hzf := hst2.z.frozen 0
          go_wp2_with fail
          refine (need_no _).mono ?_
          rintro e w' ⟨rfl, rfl⟩
          go_wp2_with fail
          exact ⟨rfl, rfl, (hst2.setz 0 d).w⟩
        by_cases hhi : 1023 < d
        · have hR2 : R = none := by rw [HR.out]; unfold readS; simp only [HDC.out]; rw [if_pos (.inr hhi)]
          subst hR2
          go_enter Try.func29, Try.ntmps29
          go_wp2_with (first | (refine wpList_load_blk rfl 43 (.tmp 6) rfl W.heap.size rfl 43 _ _ hd0 Try.underlying43 rfl hz43 ?_) | (go_at_call 39; refine H1.out.mono ?_; rintro e w' ⟨rfl, hst1⟩; clear hst hd0))
          refine (need_on (decide_eq_true (by omega)) _).mono ?_
          rintro e w' ⟨rfl, rfl⟩
          go_wp2_with fail
          refine (H2.out _ hst1).mono ?_
          rintro e w2 ⟨rfl, hst2⟩
          have hzc : w2.cell? ⟨W.heap.size + 1 + 1, 0, none⟩ = some (.int .i64 0) := by rw [hst2.z.cell, HZ0.out]; rfl
          have hzf := hst2.z.frozen 0
          go_wp2_with fail
          refine (need_off (decide_eq_false (by omega)) _).mono ?_
          rintro e w' ⟨rfl, rfl⟩
          go_wp2_with fail
          exact ⟨rfl, rfl, (hst2.setz 0 d).w⟩
        have hlo' : -1024 ≤ d := by omega
        have hhi' : d ≤ 1023 := by omega
        have hR2 : R = acS bs fa 64 1 (a + (s : Int)) (z0.set 0 d) := by rw [HR.out]; unfold readS; simp only [HDC.out]; rw [if_neg (by omega), HZ0.out]
        have HR2 := Lib.hid hR2
        clear hR2 hlo hhi
        go_enter Try.func29, Try.ntmps29
        go_wp2_with (first | (refine wpList_load_blk rfl 43 (.tmp 6) rfl W.heap.size rfl 43 _ _ hd0 Try.underlying43 rfl hz43 ?_) | (go_at_call 39; refine H1.out.mono ?_; rintro e w' ⟨rfl, hst1⟩; clear hst hd0))
        refine (need_on (decide_eq_true (by omega)) _).mono ?_
        rintro e w' ⟨rfl, rfl⟩
        go_wp2_with fail
        refine (H2.out _ hst1).mono ?_
        rintro e w2 ⟨rfl, hst2⟩
        have hzc : w2.cell? ⟨W.heap.size + 1 + 1, 0, none⟩ = some (.int .i64 0) := by rw [hst2.z.cell, HZ0.out]; rfl
        have hzf := hst2.z.frozen 0
        go_wp2_with fail
        refine (need_yes _).mono ?_
        rintro e w' ⟨rfl, rfl⟩
        have hst3 := hst2.setz 0 d
        go_wp2_with fail
        have hrs : (z0.set 0 d).length = 64 := by rw [List.length_set, HZ0.out]; simp
        have HRS := Lib.hid hrs
        clear hrs hst2 hzc hzf hst1
        go_loopw [11] (fun kv (w : World) => ∃ (n k : Nat) (a : Int) (z : List Int), kv = .int .i64 k ∧ 1 ≤ k ∧ k ≤ 64 ∧ 64 ≤ n + k ∧ z.length = 64 ∧ St W g A len c cd ca a z w ∧ 0 ≤ a ∧ a ≤ 8 * len ∧ R = acS bs fa n k a z) (fun kv _ => 64 - (intOf kv).toNat)
        case atStart => exact ⟨64, 1, a + s, _, rfl, by omega, by omega, by omega, HRS.out, hst3, by omega, by omega, HR2.out⟩
        case round =>
          obtain ⟨n, k, a, z, rfl, k0, k1, hnk, hzl, hst, b0, b1, hRn⟩ := hrel
          have HRN := Lib.hid hRn
          have HZL := Lib.hid hzl
          clear hRn hzl hst3
          by_cases hk : k < 64
          · obtain ⟨n, rfl⟩ : ∃ m, n = m + 1 := ⟨n - 1, by omega⟩
            have hR := HRN.out
            rw [acS, if_pos hk] at hR
            have hda := hst.a
            have h1 := HCA.out _ _ _ hst (by omega) (by omega)
            cases hc : codeS bs a fa with
            | none =>
              simp only [hc] at hR h1
              subst hR
              have H1 := Lib.hid h1
              clear h1 hc
              go_wp2_with (first | (refine wpList_load_blk rfl 43 (.tmp 7) rfl (W.heap.size + 1) rfl 43 _ _ hda Try.underlying43 rfl hy43 ?_) | (go_at_call 39; refine H1.out.mono ?_; rintro e w' ⟨rfl, hgf⟩))
              exact ⟨rfl, rfl, hgf⟩
            | some v =>
              simp only [hc] at hR h1
              obtain ⟨v256, _, b2⟩ := codeS_at hc
              rw [HLEN.out] at b2
              obtain ⟨at2, ha2⟩ : ∃ at2, at2 = a + ((fa v).1 : Int) := ⟨_, rfl⟩
              rw [← ha2] at hR h1 b2
              have b3 : 0 ≤ at2 := by omega
              have H1 := Lib.hid h1
              have HR := Lib.hid hR
              clear hc h1 hR ha2
              by_cases hv0 : v = 0
              · have hR2 : R = some (z, at2) := by rw [HR.out, if_pos hv0]
                subst hR2
                have hvz : ((v : Int) == 0) = true := by simp; omega
                go_wp2_with (first | (refine wpList_load_blk rfl 43 (.tmp 7) rfl (W.heap.size + 1) rfl 43 _ _ hda Try.underlying43 rfl hy43 ?_) | (go_at_call 39; refine H1.out.mono ?_; rintro e w' ⟨rfl, hst1⟩; have hzb := hst1.z; have hzs := size33 z HZL.out) | (refine wpList_load_blk rfl 33 (.tmp 8) rfl (W.heap.size + 1 + 1) rfl 33 _ _ hzb Try.underlying33 rfl hzs ?_) | (refine wpList_store_blk rfl 33 (.tmp 8) (.tmp 73) rfl (W.heap.size + 1 + 1) rfl 33 _ _ rfl hzb hzs rfl (intsC_one z) ?_; intro w5 hR5 hg5 hs5))
                have hgl := hst1.gl
                refine bodyPost_ret (v := .agg (intsC z)) (results_cell_blk rfl _ _ (W.heap.size + 1 + 1) 33 _ _ rfl hR5 Try.underlying33 rfl hzs) rfl ?_
                exact ⟨rfl, grownBy_then hst1.w hg5 (fun j e => by injection e with e; omega), hst1.r.grown hg5 (fun e => by injection e with e; omega)⟩
              · have hvz : ((v : Int) == 0) = false := by simp; omega
                obtain ⟨q, hq⟩ : ∃ q, q = v / 16 := ⟨_, rfl⟩
                have hq2 : ((v : Int) / 16) = (q : Int) := by omega
                have hq16 : q < 16 := by omega
                rw [← hq] at HR
                have HQ := Lib.hid hq
                clear hq
                by_cases h64 : 64 ≤ k + q
                · have hR2 : R = none := by rw [HR.out, if_neg hv0, if_pos h64]
                  subst hR2
                  go_wp2_with (first | (refine wpList_load_blk rfl 43 (.tmp 7) rfl (W.heap.size + 1) rfl 43 _ _ hda Try.underlying43 rfl hy43 ?_) | (go_at_call 39; refine H1.out.mono ?_; rintro e w' ⟨rfl, hst1⟩))
                  refine (need_off (decide_eq_false (by omega)) _).mono ?_
                  rintro e w2 ⟨rfl, rfl⟩
                  go_wp2_with fail
                  exact ⟨rfl, rfl, hst1.w⟩
                · have HRa := HR.out
                  rw [if_neg hv0, if_neg h64] at HRa
                  by_cases h240 : v = 240
                  · have hvf : ((v : Int) == 240) = true := by simp; omega
                    rw [if_pos h240] at HRa
                    by_cases h65 : k + q + 1 < 64
                    · rw [if_pos h65] at HRa
                      have HR3 := Lib.hid HRa
                      clear HRa h240
                      go_wp2_with (first | (refine wpList_load_blk rfl 43 (.tmp 7) rfl (W.heap.size + 1) rfl 43 _ _ hda Try.underlying43 rfl hy43 ?_) | (go_at_call 39; refine H1.out.mono ?_; rintro e w' ⟨rfl, hst1⟩))
                      refine (need_on (decide_eq_true (by omega)) _).mono ?_
                      rintro e w2 ⟨rfl, rfl⟩
                      go_wp2_with fail
                      refine (need_on (decide_eq_true (by omega)) _).mono ?_
                      rintro e w2 ⟨rfl, rfl⟩
                      go_wp2_with fail
                      go_roundw
                      case rel => exact ⟨n, k + q + 1, at2, z, by go_num, by omega, by omega, by omega, HZL.out, hst1, b3, b2, HR3.out⟩
                      case measure => simp [intOf]; omega
                    · rw [if_neg h65] at HRa
                      subst HRa
                      clear h240
                      go_wp2_with (first | (refine wpList_load_blk rfl 43 (.tmp 7) rfl (W.heap.size + 1) rfl 43 _ _ hda Try.underlying43 rfl hy43 ?_) | (go_at_call 39; refine H1.out.mono ?_; rintro e w' ⟨rfl, hst1⟩))
                      refine (need_on (decide_eq_true (by omega)) _).mono ?_
                      rintro e w2 ⟨rfl, rfl⟩
                      go_wp2_with fail
                      refine (need_off (decide_eq_false (by omega)) _).mono ?_
                      rintro e w2 ⟨rfl, rfl⟩
                      go_wp2_with fail
                      exact ⟨rfl, rfl, hst1.w⟩
                  · have hvf : ((v : Int) == 240) = false := by simp; omega
                    rw [if_neg h240] at HRa
                    have hand : bits .and .i64 (v : Int) 15 = ((v % 16 : Nat) : Int) := and_15 v (by omega)
                    obtain ⟨m, hm⟩ : ∃ m, m = v % 16 := ⟨_, rfl⟩
                    rw [← hm] at HRa hand
                    have HM := Lib.hid hm
                    clear hm
                    by_cases hm0 : m = 0
                    · rw [if_pos (.inl hm0)] at HRa
                      have hm1 : (m : Int) < 1 := by omega
                      subst HRa
                      clear hm0
                      go_wp2_with (first | (refine wpList_load_blk rfl 43 (.tmp 7) rfl (W.heap.size + 1) rfl 43 _ _ hda Try.underlying43 rfl hy43 ?_) | (go_at_call 39; refine H1.out.mono ?_; rintro e w' ⟨rfl, hst1⟩))
                      refine (need_on (decide_eq_true (by omega)) _).mono ?_
                      rintro e w2 ⟨rfl, rfl⟩
                      go_wp2_with fail
                      refine (need_no _).mono ?_
                      rintro e w2 ⟨rfl, rfl⟩
                      go_wp2_with fail
                      exact ⟨rfl, rfl, hst1.w⟩
                    · have hm1 : 1 ≤ (m : Int) := by omega
                      by_cases hm10 : 10 < m
                      · rw [if_pos (.inr hm10)] at HRa
                        subst HRa
                        clear hm0
                        go_wp2_with (first | (refine wpList_load_blk rfl 43 (.tmp 7) rfl (W.heap.size + 1) rfl 43 _ _ hda Try.underlying43 rfl hy43 ?_) | (go_at_call 39; refine H1.out.mono ?_; rintro e w' ⟨rfl, hst1⟩))
                        refine (need_on (decide_eq_true (by omega)) _).mono ?_
                        rintro e w2 ⟨rfl, rfl⟩
                        go_wp2_with fail
                        refine (need_off (decide_eq_false (by omega)) _).mono ?_
                        rintro e w2 ⟨rfl, rfl⟩
                        go_wp2_with fail
                        exact ⟨rfl, rfl, hst1.w⟩
                      · have hm11 : (m : Int) ≤ 10 := by omega
                        rw [if_neg (by omega)] at HRa
                        have h2 := fun w (h : St W g A len c cd ca at2 z w) => HNUM.out w at2 z h (by omega) (by omega) m (by omega) (by omega)
                        cases hp : peekR bs at2 (m : Int) with
                        | none =>
                          simp only [hp] at HRa h2
                          subst HRa
                          have H2 := Lib.hid h2
                          clear hp h2 hm0 hm10
                          go_wp2_with (first | (refine wpList_load_blk rfl 43 (.tmp 7) rfl (W.heap.size + 1) rfl 43 _ _ hda Try.underlying43 rfl hy43 ?_) | (go_at_call 39; refine H1.out.mono ?_; rintro e w' ⟨rfl, hst1⟩))
                          refine (need_on (decide_eq_true (by omega)) _).mono ?_
                          rintro e w2 ⟨rfl, rfl⟩
                          go_wp2_with fail
                          refine (need_on (by first | rfl | exact decide_eq_true (by omega)) _).mono ?_
                          rintro e w2 ⟨rfl, rfl⟩
                          go_wp2_with fail
                          refine (H2.out _ hst1).mono ?_
                          rintro e w2 ⟨rfl, hg2⟩
                          go_wp2_with fail
                          exact ⟨rfl, rfl, hg2⟩
                        | some x =>
                          simp only [hp] at HRa h2
                          obtain ⟨x0, x1, _, _, _, b5⟩ := peekR_bd hp
                          rw [HLEN.out] at b5
                          have x1' : x < 2 ^ m := x1
                          obtain ⟨y0, y1⟩ := backS_bd x m (by omega) x0 x1'
                          obtain ⟨yy, hy⟩ : ∃ yy, yy = backS x (m : Int) := ⟨_, rfl⟩
                          rw [← hy] at HRa h2 y0 y1
                          have H2 := Lib.hid h2
                          have HR3 := Lib.hid HRa
                          have HY := Lib.hid hy
                          clear hp h2 HRa hy hm0 hm10 x1 x1' x0
                          go_wp2_with (first | (refine wpList_load_blk rfl 43 (.tmp 7) rfl (W.heap.size + 1) rfl 43 _ _ hda Try.underlying43 rfl hy43 ?_) | (go_at_call 39; refine H1.out.mono ?_; rintro e w' ⟨rfl, hst1⟩))
                          refine (need_on (decide_eq_true (by omega)) _).mono ?_
                          rintro e w2 ⟨rfl, rfl⟩
                          go_wp2_with fail
                          refine (need_on (by first | rfl | exact decide_eq_true (by omega)) _).mono ?_
                          rintro e w2 ⟨rfl, rfl⟩
                          go_wp2_with fail
                          refine (H2.out _ hst1).mono ?_
                          rintro e w2 ⟨rfl, hst2⟩
                          have hzc : w2.cell? ⟨W.heap.size + 1 + 1, k + q, none⟩ = some (.int .i64 (z.getD (k + q) 0)) := by rw [hst2.z.cell]; exact intsC_at z _ (by rw [HZL.out]; omega)
                          have hzf := hst2.z.frozen (k + q)
                          have hst3 := hst2.setz (k + q) yy
                          have t0 : (0 : Int) ≤ (k : Int) + (q : Int) := by omega
                          have t1 : (k : Int) + (q : Int) < 64 := by omega
                          go_wp2_with fail
                          go_roundw
                          case rel => exact ⟨n, k + q + 1, at2 + m, z.set (k + q) yy, by go_num, by omega, by omega, by omega, by rw [List.length_set]; exact HZL.out, hst3, by omega, by omega, HR3.out⟩
                          case measure => simp [intOf]; omega
          · have hR2 : R = some (z, a) := by
              rw [HRN.out]
              cases n with
              | zero => rfl
              | succ n => rw [acS, if_neg hk]
            subst hR2
            have hzb := hst.z
            have hzs := size33 z HZL.out
            go_wp2_with (first | (refine wpList_load_blk rfl 33 (.tmp 8) rfl (W.heap.size + 1 + 1) rfl 33 _ _ hzb Try.underlying33 rfl hzs ?_) | (refine wpList_store_blk rfl 33 (.tmp 8) (.tmp 73) rfl (W.heap.size + 1 + 1) rfl 33 _ _ rfl hzb hzs rfl (intsC_one z) ?_; intro w5 hR5 hg5 hs5))
            have hgl := hst.gl
            refine bodyPost_ret (v := .agg (intsC z)) (results_cell_blk rfl _ _ (W.heap.size + 1 + 1) 33 _ _ rfl hR5 Try.underlying33 rfl hzs) rfl ?_
            exact ⟨rfl, grownBy_then hst.w hg5 (fun j e => by injection e with e; omega), hst.r.grown hg5 (fun e => by injection e with e; omega)⟩
end Go.Proofs.Ytbjcjddaaegheaa
