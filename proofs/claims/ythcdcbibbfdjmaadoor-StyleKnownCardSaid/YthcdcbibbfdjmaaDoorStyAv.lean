/- alive, behind whatever leaves the listed variables alone. -/
import Derived.Test.YthcdcbibbfdjmaaDoorDoorS
import Derived.Test.YthcdcbibbfdjmaaDoorStyAl
namespace Go.Proofs.YthcdcbibbfdjmaaDoor
open Go.RowKit

/-- a call of alive in a later world -/
abbrev Alive (w : World) : Prop := ∀ W, Below w.heap.size w W → Calls Tryd.prog 21 #[] W fun e w' => e = .returned (.bool true) ∧ Below W.heap.size W w'
theorem alive_all {w : World} (h : laidMetH Tryd.prog Rows.styleThenRow.laid w) : Alive w := by
  obtain ⟨E, ES, EN⟩ := env_all h
  exact fun W hb => law_alive W (E.of_below hb (Nat.le_refl _)) (ES.of_below hb (Nat.le_refl _)) (EN.of_below hb (Nat.le_refl _))
end Go.Proofs.YthcdcbibbfdjmaaDoor
