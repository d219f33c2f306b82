/- The reader of block: need, take, number: what they return, where they panic. -/
import Derived.Test.YtbjcjddaaegheaaTabC
import Derived.Deep.QuietTactic
import Derived.BigQuiet
import Derived.WalkLawsBesides
namespace Go.Proofs.Ytbjcjddaaegheaa
open Go.RowKit

def wrongE : PanicEntry := { v := .iface 64 (.agg #[]), recovered := false }
theorem need_yes (w : World) : Calls Try.prog 40 #[.bool true] w fun e w' => e = .returned (.tuple #[]) ∧ w = w' := by
  go_enter Try.func40, Try.ntmps40
  go_wp2
  go_end0
  exact ⟨rfl, rfl⟩
theorem need_no (w : World) : Calls Try.prog 40 #[.bool false] w fun e w' => e = .panicked [wrongE] ∧ w = w' := by
  go_enter Try.func40, Try.ntmps40
  go_wp2
  exact ⟨rfl, rfl, rfl⟩

theorem need_on {b : Bool} (h : b = true) (w : World) : Calls Try.prog 40 #[.bool b] w fun e w' => e = .returned (.tuple #[]) ∧ w = w' := by subst h; exact need_yes w
theorem need_off {b : Bool} (h : b = false) (w : World) : Calls Try.prog 40 #[.bool b] w fun e w' => e = .panicked [wrongE] ∧ w = w' := by subst h; exact need_no w

theorem grownBy_drewN (w : World) (n : Nat) (row : Option Nat) : w.grownBy (w.drewN n) row := ⟨rfl, rfl, rfl, Nat.le_refl _, fun _ _ _ => rfl⟩
theorem grownBy_drew (w : World) (row : Option Nat) : w.grownBy w.drew row := ⟨rfl, rfl, rfl, Nat.le_refl _, fun _ _ _ => rfl⟩
theorem grownBy_set (w : World) (g i : Nat) (v : Value) : w.grownBy (w.setCell ⟨g, i, none⟩ v) (some g) :=
  ⟨rfl, rfl, rfl, by simp [World.setCell], fun k _ hk => Below.heap_setCell w ⟨g, i, none⟩ v k (fun e => hk (by rw [e]))⟩
abbrev Rd (w : World) (g : Nat) (A : Option Addr) (len c : Nat) (at_ : Int) : Prop := Blk w g 67 #[.slice A len c, .int .i64 at_]
def Took (w : World) (g : Nat) (A : Option Addr) (len c : Nat) (at_ : Int) (v : Value) (e : Ending) (w' : World) : Prop := e = .returned v ∧ w.grownBy w' (some g) ∧ Rd w' g A len c at_
def Fell (w : World) (g : Nat) (e : Ending) (w' : World) : Prop := e = .panicked [wrongE] ∧ w.grownBy w' (some g)

theorem take_yes (g : Nat) (A : Option Addr) (c len : Nat) (bs : List Int) (at_ n x : Int) (w : World) (hlen : bs.length = len) (hb : AreBytes bs) (hr : Reads w w.heap.size 1 A len (bytesV bs))
    (hl : len ≤ 140737488355328) (a0 : -9223372036854775808 ≤ at_) (a1 : at_ ≤ 9223372036854775807) (n0 : -9223372036854775808 ≤ n) (n1 : n ≤ 9223372036854775807) (hg : Rd w g A len c at_) (hp : peekR bs at_ n = some x) :
    Calls Try.prog 49 #[.pointer (some ⟨g, 0, none⟩), .int .i64 n] w (Took w g A len c (at_ + n) (.int .i64 x)) := by
  have h0 := hg.cell 0
  have h1 := hg.cell 1
  have hf := hg.frozen 1
  obtain ⟨x0, x1, m0, m1, b0, b1⟩ := peekR_bd hp
  rw [hlen] at b1
  have hpk : ∀ m, Calls Try.prog 47 #[.slice A len c, .int .i64 at_, .int .i64 n] (w.drewN m) fun e w' => e = .returned (.tuple #[.int .i64 x, .bool true]) ∧ w' = w.drewN m := fun m =>
    (peek_any A c len bs at_ n (w.drewN m) hlen hb hr hl a0 a1 n0 n1).mono fun _ _ ⟨h1, h2⟩ => ⟨by rw [h1, hp]; rfl, h2.symm⟩
  have HPK := Lib.hid hpk
  clear hp hlen hpk hr hb
  simp at h0 h1
  go_enter Try.func49, Try.ntmps49
  go_wp2_with fail
  go_quiet ((go_at_call 47; exact Calls.quiet_of_same (HPK.out _)))
  go_wp2_with (go_at_call 40; refine (need_yes _).mono ?_; rintro e w' ⟨rfl, rfl⟩)
  go_ret
  exact ⟨rfl, (grownBy_drewN _ _ _).trans (grownBy_set _ _ _ _), (hg.drewN nq).set_ 1 _⟩
theorem take_no (g : Nat) (A : Option Addr) (c len : Nat) (bs : List Int) (at_ n : Int) (w : World) (hlen : bs.length = len) (hb : AreBytes bs) (hr : Reads w w.heap.size 1 A len (bytesV bs))
    (hl : len ≤ 140737488355328) (a0 : -9223372036854775808 ≤ at_) (a1 : at_ ≤ 9223372036854775807) (n0 : -9223372036854775808 ≤ n) (n1 : n ≤ 9223372036854775807) (hg : Rd w g A len c at_) (hp : peekR bs at_ n = none) :
    Calls Try.prog 49 #[.pointer (some ⟨g, 0, none⟩), .int .i64 n] w (Fell w g) := by
  have h0 := hg.cell 0
  have h1 := hg.cell 1
  have hpk : ∀ m, Calls Try.prog 47 #[.slice A len c, .int .i64 at_, .int .i64 n] (w.drewN m) fun e w' => e = .returned (.tuple #[.int .i64 0, .bool false]) ∧ w' = w.drewN m := fun m =>
    (peek_any A c len bs at_ n (w.drewN m) hlen hb hr hl a0 a1 n0 n1).mono fun _ _ ⟨h1, h2⟩ => ⟨by rw [h1, hp]; rfl, h2.symm⟩
  have HPK := Lib.hid hpk
  clear hp hlen hpk hr hb
  simp at h0 h1
  go_enter Try.func49, Try.ntmps49
  go_wp2_with fail
  go_quiet ((go_at_call 47; exact Calls.quiet_of_same (HPK.out _)))
  go_wp2_with (go_at_call 40; refine (need_no _).mono ?_; rintro e w' ⟨rfl, rfl⟩)
  exact ⟨rfl, rfl, grownBy_drewN _ _ _⟩
theorem number_yes (g : Nat) (A : Option Addr) (c len : Nat) (bs : List Int) (at_ n x : Int) (w : World) (hlen : bs.length = len) (hb : AreBytes bs) (hr : Reads w w.heap.size 1 A len (bytesV bs))
    (hl : len ≤ 140737488355328) (a0 : -9223372036854775808 ≤ at_) (a1 : at_ ≤ 9223372036854775807) (n0 : -9223372036854775808 ≤ n) (n1 : n ≤ 9223372036854775807) (hg : Rd w g A len c at_) (hp : peekR bs at_ n = some x) :
    Calls Try.prog 41 #[.pointer (some ⟨g, 0, none⟩), .int .i64 n] w (Took w g A len c (at_ + n) (.int .i64 (backS x n))) := by
  have H1 := Lib.hid (take_yes g A c len bs at_ n x w hlen hb hr hl a0 a1 n0 n1 hg hp)
  obtain ⟨x0, x1, m0, m1, b0, b1⟩ := peekR_bd hp
  obtain ⟨N, rfl⟩ := Int.eq_ofNat_of_zero_le m0
  have p1 := pow_le_int N 32 (by omega)
  have x1' : x < 2 ^ N := x1
  clear x1 hp hr hb hlen
  go_enter Try.func41, Try.ntmps41
  go_wp2_with (first | (go_at_call 49; refine H1.out.mono ?_; rintro e w' ⟨rfl, hg', hR⟩) | (go_at_call 48; refine (back_any _ _ _ (by omega) (by omega) (by omega) (by omega)).mono ?_; rintro e w' ⟨rfl, rfl⟩))
  go_ret
  exact ⟨rfl, hg', hR⟩
theorem number_no (g : Nat) (A : Option Addr) (c len : Nat) (bs : List Int) (at_ n : Int) (w : World) (hlen : bs.length = len) (hb : AreBytes bs) (hr : Reads w w.heap.size 1 A len (bytesV bs))
    (hl : len ≤ 140737488355328) (a0 : -9223372036854775808 ≤ at_) (a1 : at_ ≤ 9223372036854775807) (n0 : -9223372036854775808 ≤ n) (n1 : n ≤ 9223372036854775807) (hg : Rd w g A len c at_) (hp : peekR bs at_ n = none) :
    Calls Try.prog 41 #[.pointer (some ⟨g, 0, none⟩), .int .i64 n] w (Fell w g) := by
  have H1 := Lib.hid (take_no g A c len bs at_ n w hlen hb hr hl a0 a1 n0 n1 hg hp)
  clear hp hr hb hlen
  go_enter Try.func41, Try.ntmps41
  go_wp2_with (go_at_call 49; refine H1.out.mono ?_; rintro e w' ⟨rfl, hg'⟩)
  exact ⟨rfl, rfl, hg'⟩
end Go.Proofs.Ytbjcjddaaegheaa
