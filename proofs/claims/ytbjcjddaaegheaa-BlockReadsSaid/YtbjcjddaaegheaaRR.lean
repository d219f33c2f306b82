/- The reference's reader of bits: take, number, code. -/
import Derived.Test.YtbjcjddaaegheaaReadS
import Derived.Deep.RegionWith
namespace Go.Proofs.Ytbjcjddaaegheaa
open Go.RowKit

def rV (A : Option Addr) (len c : Nat) (at_ : Int) (ok : Bool) : Value := .agg #[.slice A len c, .int .i64 at_, .bool ok]
def rtakeS (bs : List Int) (at_ : Int) (ok : Bool) (n : Int) : Int × Bool × Int :=
  match peekR bs at_ n with
  | some x => if ok then (at_ + n, true, x) else (at_, false, x)
  | none => (at_, false, 0)
def rcodeS (bs : List Int) (at_ : Int) (ok : Bool) (f : Nat → Nat × Nat) : Int × Bool × Int :=
  match codeS bs at_ f with
  | some v => (at_ + (f v).1, ok, v)
  | none => (at_, false, 0)
def RPost (A : Option Addr) (len c : Nat) (W : World) (r : Int × Bool × Int) (e : Ending) (w' : World) : Prop := e = .returned (.tuple #[rV A len c r.1 r.2.1, .int .i64 r.2.2]) ∧ Below W.heap.size W w'
theorem results_blk_tmp {P : Program} {fn : Func} {p q : Tmp} {t : TypeId} (h : fn.results = #[.cell p t, .tmp q]) (tmps : Array Value) (w : World) (g : Nat) (T : TypeId) (cs : Array Value) (d : TypeDesc)
    (hp : tmps.getD p undef = .pointer (some ⟨g, 0, none⟩)) (hB : Blk w g T cs) (hu : P.underlying t = some d) (hd : d.isRow = true) (hi : (P.info? t).map (·.size) = some cs.size) :
    (results fn tmps).run P w = .ok (.tuple #[.agg cs, tmps.getD q undef]) w := by
  have hp' : tmps[p]?.getD undef = .pointer (some ⟨g, 0, none⟩) := by simpa using hp
  have e1 := run_loadVar_row (P := P) w g T t cs (0, 0) d hB hu (by cases d <;> simp_all [TypeDesc.isRow]) hi
  simp [results, h, hp', asAddr, e1]
theorem rpost_two {A : Option Addr} {len c : Nat} {W : World} {r : Int × Bool × Int} {fn : Func} (hfn : fn.results = #[.cell 4 70, .tmp 5]) {cs : Array Value} {tmps : Array Value} (hp : tmps.getD 4 undef = .pointer (some ⟨W.heap.size + 1, 0, none⟩)) (hq : tmps.getD 5 undef = .int .i64 r.2.2) :
    (results fn tmps).run Try.prog ((W.alloc (.cells cs 70)).alloc (.cells #[.slice A len c, .int .i64 r.1, .bool r.2.1] 70)) = .ok (.tuple #[rV A len c r.1 r.2.1, .int .i64 r.2.2]) ((W.alloc (.cells cs 70)).alloc (.cells #[.slice A len c, .int .i64 r.1, .bool r.2.1] 70)) := by
  have hB := Blk.new (W.alloc (.cells cs 70)) 70 #[.slice A len c, .int .i64 r.1, .bool r.2.1]
  rw [World.size_alloc] at hB
  have := results_blk_tmp (P := Try.prog) hfn tmps _ (W.heap.size + 1) 70 _ _ hp hB Try.underlying70 rfl (by kernel_rfl)
  rw [hq] at this
  exact this
theorem below_two (W : World) (o p : Obj) : Below W.heap.size W ((W.alloc o).alloc p) := ((Below.refl _ _).alloc (Nat.le_refl _) _).alloc (by simp) _
attribute [local go_sem] peekV
set_option maxHeartbeats 1000000 in
theorem rtake_any (A : Option Addr) (c len : Nat) (bs : List Int) (at_ n : Int) (ok : Bool) (W : World) (hlen : bs.length = len) (hb : AreBytes bs) (hr : Reads W W.heap.size 1 A len (bytesV bs))
    (hl : len ≤ 140737488355328) (a0 : -9223372036854775808 ≤ at_) (a1 : at_ ≤ 9223372036854775807) (n0 : -9223372036854775808 ≤ n) (n1 : n ≤ 9223372036854775807) :
    Calls Try.prog 44 #[rV A len c at_ ok, .int .i64 n] W (RPost A len c W (rtakeS bs at_ ok n)) := by
  have hz : ∀ w, (zeroValue 70).run Try.prog w = .ok (.agg #[.slice none 0 0, .int .i64 0, .bool false]) w := fun w => by kernel_rfl
  have hpk : ∀ w, Below W.heap.size W w → Calls Try.prog 43 #[.slice A len c, .int .i64 at_, .int .i64 n] w fun e w' => e = .returned (peekV (peekR bs at_ n)) ∧ w = w' := fun w hw =>
    rpeek_any A c len bs at_ n w hlen hb ((hr.below hw).more hw.size) hl a0 a1 n0 n1
  unfold rtakeS
  cases hp : peekR bs at_ n with
  | none =>
    simp only [hp] at hpk
    have HPK := Lib.hid hpk
    clear hpk hp
    cases ok
    all_goals
      unfold rV
      go_enter Try.func44, Try.ntmps44
      go_wp2_with (go_at_call 43; refine (HPK.out _ (below_two _ _ _)).mono ?_; rintro e w' ⟨rfl, rfl⟩)
      exact bodyPost_ret (rpost_two (r := (at_, false, 0)) rfl rfl rfl) rfl ⟨rfl, below_two _ _ _⟩
  | some x =>
    obtain ⟨x0, x1, _, _, b0, b1⟩ := peekR_bd hp
    rw [hlen] at b1
    simp only [hp] at hpk
    have HPK := Lib.hid hpk
    clear hpk hp hlen x1
    cases ok
    · unfold rV
      go_enter Try.func44, Try.ntmps44
      go_wp2_with (go_at_call 43; refine (HPK.out _ (below_two _ _ _)).mono ?_; rintro e w' ⟨rfl, rfl⟩)
      exact bodyPost_ret (rpost_two (r := (at_, false, x)) rfl rfl rfl) rfl ⟨rfl, below_two _ _ _⟩
    · unfold rV
      go_enter Try.func44, Try.ntmps44
      go_wp2_with (go_at_call 43; refine (HPK.out _ (below_two _ _ _)).mono ?_; rintro e w' ⟨rfl, rfl⟩)
      exact bodyPost_ret (rpost_two (r := (at_ + n, true, x)) rfl rfl rfl) rfl ⟨rfl, below_two _ _ _⟩
def rnumS (bs : List Int) (at_ : Int) (ok : Bool) (n : Int) : Int × Bool × Int := ((rtakeS bs at_ ok n).1, (rtakeS bs at_ ok n).2.1, backS (rtakeS bs at_ ok n).2.2 n)
theorem rtakeS_bd (bs : List Int) (at_ : Int) (ok : Bool) (n : Int) : 0 ≤ (rtakeS bs at_ ok n).2.2 ∧ (rtakeS bs at_ ok n).2.2 ≤ 4294967296 := by
  unfold rtakeS
  cases hp : peekR bs at_ n with
  | none => simp
  | some x =>
    obtain ⟨x0, x1, m0, m1, _, _⟩ := peekR_bd hp
    obtain ⟨N, rfl⟩ := Int.eq_ofNat_of_zero_le m0
    have p1 := pow_le_int N 32 (by omega)
    have x1' : x < 2 ^ N := x1
    cases ok <;> simp <;> omega
set_option maxHeartbeats 1000000 in
theorem rnumber_any (A : Option Addr) (c len : Nat) (bs : List Int) (at_ n : Int) (ok : Bool) (W : World) (hlen : bs.length = len) (hb : AreBytes bs) (hr : Reads W W.heap.size 1 A len (bytesV bs))
    (hl : len ≤ 140737488355328) (a0 : -9223372036854775808 ≤ at_) (a1 : at_ ≤ 9223372036854775807) (n0 : -9223372036854775808 ≤ n) (n1 : n ≤ 9223372036854775807) :
    Calls Try.prog 34 #[rV A len c at_ ok, .int .i64 n] W (RPost A len c W (rnumS bs at_ ok n)) := by
  have hz : ∀ w, (zeroValue 70).run Try.prog w = .ok (.agg #[.slice none 0 0, .int .i64 0, .bool false]) w := fun w => by kernel_rfl
  have htk : ∀ w, Below W.heap.size W w → Calls Try.prog 44 #[.agg #[.slice A len c, .int .i64 at_, .bool ok], .int .i64 n] w (RPost A len c w (rtakeS bs at_ ok n)) := fun w hw =>
    rtake_any A c len bs at_ n ok w hlen hb ((hr.below hw).more hw.size) hl a0 a1 n0 n1
  obtain ⟨v0, v1⟩ := rtakeS_bd bs at_ ok n
  unfold rnumS
  obtain ⟨r, hr⟩ : ∃ r, r = rtakeS bs at_ ok n := ⟨_, rfl⟩
  rw [← hr] at htk v0 v1 ⊢
  clear hr
  obtain ⟨a, o, x⟩ := r
  simp only at v0 v1 ⊢
  have HTK := Lib.hid htk
  clear htk
  unfold rV
  go_enter Try.func34, Try.ntmps34
  go_wp2_with fail
  refine (HTK.out _ (below_two _ _ _)).mono ?_
  rintro e w1 ⟨rfl, hb1⟩
  have hB4 := (Blk.new (W.alloc (.cells #[.slice A len c, .int .i64 at_, .bool ok] 70)) 70 #[.slice none 0 0, .int .i64 0, .bool false])
  rw [World.size_alloc] at hB4
  have hB4' := hB4.below hb1 (by simp)
  have hbe1 := (below_two W (.cells #[.slice A len c, .int .i64 at_, .bool ok] 70) (.cells #[.slice none 0 0, .int .i64 0, .bool false] 70)).trans (hb1.mono (by simp; omega))
  clear hB4 hb1
  unfold rV
  go_wp2_with fail
  have hB2 := Blk.new w1 70 #[.slice A len c, .int .i64 a, .bool o]
  have hB4 := hB4'.alloc (.cells #[.slice A len c, .int .i64 a, .bool o] 70)
  have hbe := hbe1.alloc hbe1.size (.cells #[.slice A len c, .int .i64 a, .bool o] 70)
  have hne : w1.heap.size ≠ W.heap.size + 1 := by have := hB4'.lt; omega
  obtain ⟨g, hg⟩ : ∃ g, g = w1.heap.size := ⟨_, rfl⟩
  obtain ⟨w2, hw2⟩ : ∃ w2, w1.alloc (.cells #[.slice A len c, .int .i64 a, .bool o] 70) = w2 := ⟨_, rfl⟩
  rw [hw2] at hB2 hB4 hbe ⊢
  rw [← hg] at hB2 hne ⊢
  clear hw2 hg hB4' hbe1
  have c0 := hB2.cell 0
  have c1 := hB2.cell 1
  have c2 := hB2.cell 2
  have d0 := hB4.cell 0
  have d1 := hB4.cell 1
  have d2 := hB4.cell 2
  have f0 := hB4.frozen 0
  have f1 := hB4.frozen 1
  have f2 := hB4.frozen 2
  simp at c0 c1 c2 d0 d1 d2
  go_region_with (go_at_call 45; refine (rback_any _ _ _ (by omega) (by omega) (by omega) (by omega)).mono ?_; rintro e w3 ⟨rfl, rfl⟩)
  all_goals
    have hB5 : Blk (((w2.setCell ⟨W.heap.size + 1, 0, none⟩ (.slice A len c)).setCell ⟨W.heap.size + 1, 1, none⟩ (.int .i64 a)).setCell ⟨W.heap.size + 1, 2, none⟩ (.bool o)).drew (W.heap.size + 1) 70 #[.slice A len c, .int .i64 a, .bool o] := (((hB4.set_ 0 _).set_ 1 _).set_ 2 _).drew
    have hbe5 : Below W.heap.size W (((w2.setCell ⟨W.heap.size + 1, 0, none⟩ (.slice A len c)).setCell ⟨W.heap.size + 1, 1, none⟩ (.int .i64 a)).setCell ⟨W.heap.size + 1, 2, none⟩ (.bool o)).drew := (((hbe.setCell (p := ⟨W.heap.size + 1, 0, none⟩) (by simp) _).setCell (p := ⟨W.heap.size + 1, 1, none⟩) (by simp) _).setCell (p := ⟨W.heap.size + 1, 2, none⟩) (by simp) _).drew
    go_wp2_with fail
    exact bodyPost_ret (v := .tuple #[rV A len c a o, .int .i64 (backS x n)]) (results_blk_tmp (P := Try.prog) (fn := Try.f34) rfl _ _ (W.heap.size + 1) 70 _ _ rfl hB5 Try.underlying70 rfl (by kernel_rfl)) rfl ⟨rfl, hbe5⟩
end Go.Proofs.Ytbjcjddaaegheaa
