/-
  No cell of these rows narrows 'for every input' (looked for: loops, veiled, ifaces, maps, wideKeys, modest, calm, conditions, laid).
  DERIVED. THE GIVEN ROWS OF THIS SEAT. 4 by the template 'for every input the law returns true; each argument reads behind the call as it read before'; 0 by the template 'total and deterministic' (their statements: YtdkgficmodcolaaTotals.lean).
  GIVEN WITH THE SEED: the statements are not yours to turn. If you find one false, say at which input.
  Laid BY PROGRAM, IN A SANDBOX (cutbox-rows.mjs): the forced cells as the released guide's own fill.sh prints them over the translation 9d3b544b79edf1e4… (all of the seat's roots in one cut). By AI agents, Wed Nov 11 2026. No macro, syntax, notation, axiom, sorry.
-/
import Derived.Test.YtdkgficmodcolaaChecked
import GoSem.Claim
import GoSem.ClaimJoined
import GoSem.ClaimMapViews
import Derived.JoinedTies
import Derived.KernelRfl
namespace Go.Proofs.Ytdkgficmodcolaa
/- THE CELL 'sum', in the pinned program and in every row, IS THE sha256 OF THE DUMP (.gsa) THAT YtdkgficmodcolaaProg.lean LOADS. Nothing in Lean hashes anything: it is a label: what it is worth is what the hold of that sum in a sandbox is worth. -/
noncomputable def Try.pinned : Pinned := { name := "ytdkgficmodcolaa", sum := "9d3b544b79edf1e47744f41d0cacc1c90dce4e43274bedb8b730b089d5fb3320", checked := Try.checked }
namespace Rows
def none {H : Type} : Left H := { results := [], args := [] }

/-- 'cyanotypelaw11.OptimLeast': WHATEVER THE INPUT: true; the input reads as it did. -/
def optimLeastSpec : ChangeSpec := { name := "optimLeast", fn := fun _ => fun
  | [d1, d2, d3] => { results := [.lit (.bool true)], args := [d1, d2, d3] }
  | _ => none }
def optimLeastRow : OpenClaim := { program := "ytdkgficmodcolaa", sum := "9d3b544b79edf1e47744f41d0cacc1c90dce4e43274bedb8b730b089d5fb3320", func := "cyanotype/cyanotypelaw11.OptimLeast", spec := "optimLeast", unfollowed := true, recurses := true, apart := false }
def OptimLeastSaid : Prop := optimLeastRow.holds Try.pinned (OpenSpec.ofChange optimLeastSpec)

/-- ITS FALSE NEIGHBOUR: 'it returns false'. Refute it at one input. -/
def optimLeastWrong : ChangeSpec := { name := "optimLeast", fn := fun _ => fun
  | [d1, d2, d3] => { results := [.lit (.bool false)], args := [d1, d2, d3] }
  | _ => none }
def OptimLeastWrongFalsely : Prop := optimLeastRow.holds Try.pinned (OpenSpec.ofChange optimLeastWrong)

/-- 'cyanotypelaw11.OptimOrder': WHATEVER THE INPUT: true; the input reads as it did. -/
def optimOrderSpec : ChangeSpec := { name := "optimOrder", fn := fun _ => fun
  | [d1, d2, d3, d4] => { results := [.lit (.bool true)], args := [d1, d2, d3, d4] }
  | _ => none }
def optimOrderRow : OpenClaim := { program := "ytdkgficmodcolaa", sum := "9d3b544b79edf1e47744f41d0cacc1c90dce4e43274bedb8b730b089d5fb3320", func := "cyanotype/cyanotypelaw11.OptimOrder", spec := "optimOrder", unfollowed := true, recurses := true, apart := false }
def OptimOrderSaid : Prop := optimOrderRow.holds Try.pinned (OpenSpec.ofChange optimOrderSpec)

/-- ITS FALSE NEIGHBOUR: 'it returns false'. Refute it at one input. -/
def optimOrderWrong : ChangeSpec := { name := "optimOrder", fn := fun _ => fun
  | [d1, d2, d3, d4] => { results := [.lit (.bool false)], args := [d1, d2, d3, d4] }
  | _ => none }
def OptimOrderWrongFalsely : Prop := optimOrderRow.holds Try.pinned (OpenSpec.ofChange optimOrderWrong)

/-- 'cyanotypelaw11.OptimSuits': WHATEVER THE INPUT: true; the input reads as it did. -/
def optimSuitsSpec : ChangeSpec := { name := "optimSuits", fn := fun _ => fun
  | [d1, d2] => { results := [.lit (.bool true)], args := [d1, d2] }
  | _ => none }
def optimSuitsRow : OpenClaim := { program := "ytdkgficmodcolaa", sum := "9d3b544b79edf1e47744f41d0cacc1c90dce4e43274bedb8b730b089d5fb3320", func := "cyanotype/cyanotypelaw11.OptimSuits", spec := "optimSuits", unfollowed := true, recurses := true, apart := false }
def OptimSuitsSaid : Prop := optimSuitsRow.holds Try.pinned (OpenSpec.ofChange optimSuitsSpec)

/-- ITS FALSE NEIGHBOUR: 'it returns false'. Refute it at one input. -/
def optimSuitsWrong : ChangeSpec := { name := "optimSuits", fn := fun _ => fun
  | [d1, d2] => { results := [.lit (.bool false)], args := [d1, d2] }
  | _ => none }
def OptimSuitsWrongFalsely : Prop := optimSuitsRow.holds Try.pinned (OpenSpec.ofChange optimSuitsWrong)

/-- 'cyanotypelaw11.OptimOne': WHATEVER THE INPUT: true; the input reads as it did. -/
def optimOneSpec : ChangeSpec := { name := "optimOne", fn := fun _ => fun
  | [d1, d2] => { results := [.lit (.bool true)], args := [d1, d2] }
  | _ => none }
def optimOneRow : OpenClaim := { program := "ytdkgficmodcolaa", sum := "9d3b544b79edf1e47744f41d0cacc1c90dce4e43274bedb8b730b089d5fb3320", func := "cyanotype/cyanotypelaw11.OptimOne", spec := "optimOne", unfollowed := true, recurses := true, apart := false }
def OptimOneSaid : Prop := optimOneRow.holds Try.pinned (OpenSpec.ofChange optimOneSpec)

/-- ITS FALSE NEIGHBOUR: 'it returns false'. Refute it at one input. -/
def optimOneWrong : ChangeSpec := { name := "optimOne", fn := fun _ => fun
  | [d1, d2] => { results := [.lit (.bool false)], args := [d1, d2] }
  | _ => none }
def OptimOneWrongFalsely : Prop := optimOneRow.holds Try.pinned (OpenSpec.ofChange optimOneWrong)

/- THE SECOND FORM. 'bulk': how many values and letters a reading holds, each counted each time it is reached (what is shared counts as often as it is met; a slice's spare places count too). A statement '..UptoSaid' is the law's where the arguments, and the package variables that the reading takes, are together of bulk at most 1048576: NARROWER than '..Said'. Prove '..Said' where nothing that the law and all that it calls make is longer than what came in: it says more and counts as full. Else prove '..UptoSaid'. A law counts once. -/
mutual
def uptoBulk {H : Type} : DataW H → Nat
  | .lit (.string bytes) => bytes.length + 1
  | .lit _ => 1
  | .nil => 1
  | .ptr d => uptoBulk d + 1
  | .slice elems spare => uptoBulkAll elems + uptoBulkAll spare + 1
  | .agg parts => uptoBulkAll parts + 1
  | .iface _ d => uptoBulk d + 1
  | .map entries => uptoBulkEntries entries + 1
  | .held _ => 1
def uptoBulkAll {H : Type} : List (DataW H) → Nat
  | [] => 0
  | d :: r => uptoBulk d + uptoBulkAll r
def uptoBulkEntries {H : Type} : List (Lit × DataW H) → Nat
  | [] => 0
  | x :: r => uptoBulkEntry x + uptoBulkEntries r
def uptoBulkEntry {H : Type} : Lit × DataW H → Nat
  | (.string bytes, d) => bytes.length + uptoBulk d + 1
  | (_, d) => uptoBulk d + 1
 end
def uptoSmall : (H : Type) → List (DataW H) → Bool := fun _ ds => decide (uptoBulkAll ds ≤ 1048576)
def OpenSpec.upto (s : _root_.Go.ChangeSpec) : _root_.Go.OpenSpec := { _root_.Go.OpenSpec.ofChange s with cond := some uptoSmall }

/-- 'cyanotypelaw11.OptimLeast', WHERE WHAT IT READS IS OF BULK AT MOST 1048576: true; the input reads as it did. -/
def optimLeastUptoRow : OpenClaim := { program := "ytdkgficmodcolaa", sum := "9d3b544b79edf1e47744f41d0cacc1c90dce4e43274bedb8b730b089d5fb3320", func := "cyanotype/cyanotypelaw11.OptimLeast", spec := "optimLeast", unfollowed := true, recurses := true, apart := false, narrowed := true }
def OptimLeastUptoSaid : Prop := optimLeastUptoRow.holds Try.pinned (OpenSpec.upto optimLeastSpec)

/-- 'cyanotypelaw11.OptimOrder', WHERE WHAT IT READS IS OF BULK AT MOST 1048576: true; the input reads as it did. -/
def optimOrderUptoRow : OpenClaim := { program := "ytdkgficmodcolaa", sum := "9d3b544b79edf1e47744f41d0cacc1c90dce4e43274bedb8b730b089d5fb3320", func := "cyanotype/cyanotypelaw11.OptimOrder", spec := "optimOrder", unfollowed := true, recurses := true, apart := false, narrowed := true }
def OptimOrderUptoSaid : Prop := optimOrderUptoRow.holds Try.pinned (OpenSpec.upto optimOrderSpec)

/-- 'cyanotypelaw11.OptimSuits', WHERE WHAT IT READS IS OF BULK AT MOST 1048576: true; the input reads as it did. -/
def optimSuitsUptoRow : OpenClaim := { program := "ytdkgficmodcolaa", sum := "9d3b544b79edf1e47744f41d0cacc1c90dce4e43274bedb8b730b089d5fb3320", func := "cyanotype/cyanotypelaw11.OptimSuits", spec := "optimSuits", unfollowed := true, recurses := true, apart := false, narrowed := true }
def OptimSuitsUptoSaid : Prop := optimSuitsUptoRow.holds Try.pinned (OpenSpec.upto optimSuitsSpec)

/-- 'cyanotypelaw11.OptimOne', WHERE WHAT IT READS IS OF BULK AT MOST 1048576: true; the input reads as it did. -/
def optimOneUptoRow : OpenClaim := { program := "ytdkgficmodcolaa", sum := "9d3b544b79edf1e47744f41d0cacc1c90dce4e43274bedb8b730b089d5fb3320", func := "cyanotype/cyanotypelaw11.OptimOne", spec := "optimOne", unfollowed := true, recurses := true, apart := false, narrowed := true }
def OptimOneUptoSaid : Prop := optimOneUptoRow.holds Try.pinned (OpenSpec.upto optimOneSpec)

end Rows
end Go.Proofs.Ytdkgficmodcolaa
