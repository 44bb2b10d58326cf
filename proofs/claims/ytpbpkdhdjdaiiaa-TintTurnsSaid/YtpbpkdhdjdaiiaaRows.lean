/-
  No cell of these rows narrows 'for every input' (looked for: loops, veiled, ifaces, maps, wideKeys, modest, calm, conditions, laid).
  DERIVED. THE GIVEN ROWS OF THIS SEAT. 2 by the template 'for every input the law returns true; each argument reads behind the call as it read before'; 0 by the template 'total and deterministic' (their statements: YtpbpkdhdjdaiiaaTotals.lean).
  GIVEN WITH THE SEED: the statements are not yours to turn. If you find one false, say at which input.
  Laid BY PROGRAM, IN A SANDBOX (cutbox-rows.mjs): the forced cells as the released guide's own fill.sh prints them over the translation 32577f4979cdf0c2… (all of the seat's roots in one cut). By AI agents, Wed Nov 11 2026. No macro, syntax, notation, axiom, sorry.
-/
import Derived.Test.YtpbpkdhdjdaiiaaChecked
import GoSem.Claim
import GoSem.ClaimJoined
import GoSem.ClaimMapViews
import Derived.JoinedTies
import Derived.KernelRfl
namespace Go.Proofs.Ytpbpkdhdjdaiiaa
/- THE CELL 'sum', in the pinned program and in every row, IS THE sha256 OF THE DUMP (.gsa) THAT YtpbpkdhdjdaiiaaProg.lean LOADS. Nothing in Lean hashes anything: it is a label: what it is worth is what the hold of that sum in a sandbox is worth. -/
noncomputable def Try.pinned : Pinned := { name := "ytpbpkdhdjdaiiaa", sum := "32577f4979cdf0c2fa599d8bf8341d03e04c338d9b8f9dde89087fbd4487eecd", checked := Try.checked }
namespace Rows
def none {H : Type} : Left H := { results := [], args := [] }

/-- 'frescolaw05.TintMixes': WHATEVER THE INPUT: true; the input reads as it did. -/
def tintMixesSpec : ChangeSpec := { name := "tintMixes", fn := fun _ => fun
  | [d1, d2, d3] => { results := [.lit (.bool true)], args := [d1, d2, d3] }
  | _ => none }
def tintMixesRow : OpenClaim := { program := "ytpbpkdhdjdaiiaa", sum := "32577f4979cdf0c2fa599d8bf8341d03e04c338d9b8f9dde89087fbd4487eecd", func := "fresco/frescolaw05.TintMixes", spec := "tintMixes", inPlace := ["math.archFloor", "math.Float64bits", "math.Float64frombits", "math.archTrunc"], apart := false }
def TintMixesSaid : Prop := tintMixesRow.holds Try.pinned (OpenSpec.ofChange tintMixesSpec)

/-- ITS FALSE NEIGHBOUR: 'it returns false'. Refute it at one input. -/
def tintMixesWrong : ChangeSpec := { name := "tintMixes", fn := fun _ => fun
  | [d1, d2, d3] => { results := [.lit (.bool false)], args := [d1, d2, d3] }
  | _ => none }
def TintMixesWrongFalsely : Prop := tintMixesRow.holds Try.pinned (OpenSpec.ofChange tintMixesWrong)

/-- 'frescolaw05.TintTurns': WHATEVER THE INPUT: true; the input reads as it did. -/
def tintTurnsSpec : ChangeSpec := { name := "tintTurns", fn := fun _ => fun
  | [d1, d2, d3] => { results := [.lit (.bool true)], args := [d1, d2, d3] }
  | _ => none }
def tintTurnsRow : OpenClaim := { program := "ytpbpkdhdjdaiiaa", sum := "32577f4979cdf0c2fa599d8bf8341d03e04c338d9b8f9dde89087fbd4487eecd", func := "fresco/frescolaw05.TintTurns", spec := "tintTurns", inPlace := ["math.Float64bits", "math.Float64frombits", "math.archFloor", "math.archTrunc"], apart := false }
def TintTurnsSaid : Prop := tintTurnsRow.holds Try.pinned (OpenSpec.ofChange tintTurnsSpec)

/-- ITS FALSE NEIGHBOUR: 'it returns false'. Refute it at one input. -/
def tintTurnsWrong : ChangeSpec := { name := "tintTurns", fn := fun _ => fun
  | [d1, d2, d3] => { results := [.lit (.bool false)], args := [d1, d2, d3] }
  | _ => none }
def TintTurnsWrongFalsely : Prop := tintTurnsRow.holds Try.pinned (OpenSpec.ofChange tintTurnsWrong)

/- THE SECOND FORM. 'bulk': how many values and letters a reading holds, each counted each time it is reached (what is shared counts as often as it is met; a slice's spare places count too). A statement '..UptoSaid' is the law's where the arguments, and the package variables that the reading takes, are together of bulk at most 1048576: NARROWER than '..Said'. Prove '..Said' where nothing that the law and all that it calls make is longer than what came in: it says more and counts as full. Else prove '..UptoSaid'. A law counts once. -/
mutual
def uptoBulk {H : Type} : DataW H → Nat
  | .lit (.string bytes) => bytes.length + 1
  | .lit _ => 1
  | .nil => 1
  | .ptr d => uptoBulk d + 1
  | .slice elems spare => uptoBulkAll elems + uptoBulkAll spare + 1
  | .agg parts => uptoBulkAll parts + 1
  | .iface _ d => uptoBulk d + 1
  | .map entries => uptoBulkEntries entries + 1
  | .held _ => 1
def uptoBulkAll {H : Type} : List (DataW H) → Nat
  | [] => 0
  | d :: r => uptoBulk d + uptoBulkAll r
def uptoBulkEntries {H : Type} : List (Lit × DataW H) → Nat
  | [] => 0
  | x :: r => uptoBulkEntry x + uptoBulkEntries r
def uptoBulkEntry {H : Type} : Lit × DataW H → Nat
  | (.string bytes, d) => bytes.length + uptoBulk d + 1
  | (_, d) => uptoBulk d + 1
 end
def uptoSmall : (H : Type) → List (DataW H) → Bool := fun _ ds => decide (uptoBulkAll ds ≤ 1048576)
def OpenSpec.upto (s : _root_.Go.ChangeSpec) : _root_.Go.OpenSpec := { _root_.Go.OpenSpec.ofChange s with cond := some uptoSmall }

/-- 'frescolaw05.TintMixes', WHERE WHAT IT READS IS OF BULK AT MOST 1048576: true; the input reads as it did. -/
def tintMixesUptoRow : OpenClaim := { program := "ytpbpkdhdjdaiiaa", sum := "32577f4979cdf0c2fa599d8bf8341d03e04c338d9b8f9dde89087fbd4487eecd", func := "fresco/frescolaw05.TintMixes", spec := "tintMixes", inPlace := ["math.archFloor", "math.Float64bits", "math.Float64frombits", "math.archTrunc"], apart := false, narrowed := true }
def TintMixesUptoSaid : Prop := tintMixesUptoRow.holds Try.pinned (OpenSpec.upto tintMixesSpec)

/-- 'frescolaw05.TintTurns', WHERE WHAT IT READS IS OF BULK AT MOST 1048576: true; the input reads as it did. -/
def tintTurnsUptoRow : OpenClaim := { program := "ytpbpkdhdjdaiiaa", sum := "32577f4979cdf0c2fa599d8bf8341d03e04c338d9b8f9dde89087fbd4487eecd", func := "fresco/frescolaw05.TintTurns", spec := "tintTurns", inPlace := ["math.Float64bits", "math.Float64frombits", "math.archFloor", "math.archTrunc"], apart := false, narrowed := true }
def TintTurnsUptoSaid : Prop := tintTurnsUptoRow.holds Try.pinned (OpenSpec.upto tintTurnsSpec)

end Rows
end Go.Proofs.Ytpbpkdhdjdaiiaa
