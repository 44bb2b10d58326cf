/- What a call gives; small facts on worlds. -/
import Derived.Test.YtkllilehdpdbdaaGreatDoorChecked
import Derived.WalkKit
import Derived.WalkSpells
import Derived.WalkLawsBesides
import Derived.Handy
import Derived.Lib.Hide
import Derived.Deep.QuietTactic
import Derived.BigQuiet
namespace Go.Proofs.YtkllilehdpdbdaaGreatDoor
open Go.RowKit

/-- A call that leaves all old memory as it was and answers 'v'. -/
abbrev Gives (k : Nat) (args : Array Value) (v : Value) : Prop := ∀ w, Calls Tryz.prog k args w fun e w' => e = .returned v ∧ Below w.heap.size w w'
/-- A call that leaves the world alone and answers 'v'. -/
abbrev Tells (k : Nat) (args : Array Value) (v : Value) : Prop := ∀ w, Calls Tryz.prog k args w fun e w' => e = .returned v ∧ w = w'

theorem Tells.quiet {k : Nat} {args : Array Value} {v : Value} (h : Tells k args v) {w : World} {n : Nat} : Calls Tryz.prog k args (w.drewN n) fun e w'' => e = .returned v ∧ ∃ m, w'' = w.drewN m :=
  (h _).mono fun _ _ ⟨he, hm⟩ => ⟨he, n, hm.symm⟩

/-- Behind a call that leaves old memory alone: old cells, old marks. -/
theorem bcell {W w1 : World} (hb : Below W.heap.size W w1) : (∀ b o, b < W.heap.size → w1.cell? ⟨b, o, none⟩ = W.cell? ⟨b, o, none⟩) ∧ (∀ b o, b < W.heap.size → w1.frozen? ⟨b, o, none⟩ = W.frozen? ⟨b, o, none⟩) ∧ W.heap.size ≤ w1.heap.size :=
  ⟨fun b o h => hb.cell (p := ⟨b, o, none⟩) h, fun b o h => hb.frozen (p := ⟨b, o, none⟩) h, hb.size⟩

/-- Old memory stays as it was, through what was done before and a call. -/
theorem below_call {B : Nat} {w W w1 : World} (h : Below B w W) (hB : B ≤ W.heap.size) (hb : Below W.heap.size W w1) : Below B w w1 := h.trans (hb.mono hB)

theorem ret_int {k : IntKind} {a b : Int} (h : a = b) : Ending.returned (.int k a) = .returned (.int k b) := by rw [h]
theorem ret_bool {a b : Bool} (h : a = b) : Ending.returned (.bool a) = .returned (.bool b) := by rw [h]
abbrev arr3 (a b c : Int) : Value := .agg #[.int .u8 a, .int .u8 b, .int .u8 c]
end Go.Proofs.YtkllilehdpdbdaaGreatDoor
