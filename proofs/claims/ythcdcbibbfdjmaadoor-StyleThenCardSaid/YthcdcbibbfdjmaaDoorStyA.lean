/- What numbers do to a style (plain). -/
import Derived.Test.YthcdcbibbfdjmaaDoorStyL
namespace Go.Proofs.YthcdcbibbfdjmaaDoor
open Go.RowKit
set_option linter.unusedVariables false

/-- the bits that a number sets; that it takes -/
def setM (n : Int) : B8 := if n = 1 then 1 else if n = 2 then 2 else if n = 3 then 4 else if n = 4 then 8 else if n = 5 then 16 else if n = 7 then 32 else if n = 8 then 64 else if n = 9 then 128 else 0
def takeM (n : Int) : B8 := if n = 22 then 3 else if n = 23 then 4 else if n = 24 then 8 else if n = 25 then 16 else if n = 27 then 32 else if n = 28 then 64 else if n = 29 then 128 else 0
def attrN (a : B8) (n : Int) : B8 := (a &&& ~~~(takeM n)) ||| setM n
def colN (c n : Int) : Int := if 30 ≤ n ∧ n ≤ 37 then n + 226 else if 90 ≤ n ∧ n ≤ 97 then n + 174 else if n = 39 then 0 else c
def stepN (s : Sty) (n : Int) : Sty := ⟨colN s.fg n, colN s.bg (n - 10), attrN s.at_ n⟩
def okB (n : Int) : Bool := decide (0 ≤ n ∧ n ≤ 255)
/-- the colour that stands behind a 38 or 48, and how many numbers it takes -/
def richL : List Int → Option (Int × Nat)
  | 5 :: a :: _ => if okB a = true then some (256 + a, 2) else none
  | 2 :: a :: b :: c :: _ => if okB a = true ∧ okB b = true ∧ okB c = true then some (16777216 + 65536 * a + 256 * b + c, 4) else none
  | _ => none
def plainS : Sty := ⟨0, 0, 0⟩
def applyF : Nat → Sty → List Int → Sty
  | 0, s, _ => s
  | _ + 1, s, [] => s
  | f + 1, s, n :: r =>
    if n = 0 then applyF f plainS r
    else if n = 38 then (match richL r with | some (c, k) => applyF f { s with fg := c } (r.drop k) | none => s)
    else if n = 48 then (match richL r with | some (c, k) => applyF f { s with bg := c } (r.drop k) | none => s)
    else applyF f (stepN s n) r
def applyL (s : Sty) (l : List Int) : Sty := if l = [] then plainS else applyF l.length (countS s) l

/-- more fuel changes nothing -/
theorem applyF_more (l : List Int) : ∀ (f g : Nat) (s : Sty), l.length ≤ f → l.length ≤ g → applyF f s l = applyF g s l := by
  induction h : l.length using Nat.strongRecOn generalizing l with
  | _ m ih =>
    intro f g s hf hg
    subst h
    cases l with
    | nil => cases f <;> cases g <;> rfl
    | cons n r =>
      simp only [List.length_cons] at hf hg ih
      obtain ⟨f, rfl⟩ : ∃ k, f = k + 1 := ⟨f - 1, by omega⟩
      obtain ⟨g, rfl⟩ : ∃ k, g = k + 1 := ⟨g - 1, by omega⟩
      have go : ∀ (s : Sty) (k : Nat), applyF f s (r.drop k) = applyF g s (r.drop k) := fun s k =>
        ih _ (by rw [List.length_drop]; omega) (r.drop k) rfl f g s (by rw [List.length_drop]; omega) (by rw [List.length_drop]; omega)
      have go0 : ∀ s, applyF f s r = applyF g s r := fun s => by simpa using go s 0
      unfold applyF
      rw [go0, go0]
      split
      · rfl
      · split
        · split
          · exact go _ _
          · rfl
        · split
          · split
            · exact go _ _
            · rfl
          · rfl
end Go.Proofs.YthcdcbibbfdjmaaDoor
