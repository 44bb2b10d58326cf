/- The bytes that tell a frame (plain; of no program). -/
import Derived.Test.YtkllilehdpdbdaaGreatDoorDfP
import Derived.Lib.AppendIntMem
namespace Go.Proofs.YtkllilehdpdbdaaGreatDoor
open Go.RowKit
set_option linter.unusedVariables false

def zB : ByteArray := ⟨#[]⟩
def itB (n : Int) : ByteArray := ⟨(Lib.itoa n).toArray⟩
/-- numbers with semicolons between them -/
def semi1 (s : ByteArray) (n : Int) : ByteArray := (if s = zB then s else s ++ ⟨#[59]⟩) ++ itB n
def semiB (l : List Int) : ByteArray := l.foldl semi1 zB
/-- the sequence from one style to another one -/
def turnB (f t : Sty) : ByteArray := if semiB (paramsL f t) = zB then zB else (⟨#[27, 91]⟩ ++ semiB (paramsL f t)) ++ ⟨#[109]⟩
def moveB (x y : Int) : ByteArray := (((⟨#[27, 91]⟩ ++ itB (y + 1)) ++ ⟨#[59]⟩) ++ itB (x + 1)) ++ ⟨#[72]⟩
def clearB : ByteArray := ⟨#[27, 91, 48, 109, 27, 91, 63, 55, 108, 27, 91, 50, 74, 27, 91, 72, 27, 91, 63, 50, 53, 108]⟩
def showB : ByteArray := ⟨#[27, 91, 63, 50, 53, 104]⟩
def hideB : ByteArray := ⟨#[27, 91, 63, 50, 53, 108]⟩
def joinsB (a b : ByteArray) : Bool := decide (splitB (a ++ b) ≠ splitB a ++ splitB b)
def blankC : Cel := ⟨⟨#[32]⟩, 1, plainS⟩

/-- what is known of the terminal, and what was told so far -/
structure Tel where
  place : Bool
  x : Int
  y : Int
  st : Sty
  text : ByteArray
  out : ByteArray
def seqT (t : Tel) (b : ByteArray) : Tel := ⟨t.place, t.x, t.y, t.st, zB, t.out ++ b⟩
def moveT (t : Tel) (x y : Int) : Tel := ⟨true, x, y, t.st, zB, t.out ++ moveB x y⟩
/-- must the cursor be moved? -/
def goB (t : Tel) (x y : Int) (s : Sty) (tx : ByteArray) : Bool :=
  !t.place || decide (t.x ≠ x) || decide (t.y ≠ y) || (decide (turnB t.st s = zB) && decide (t.text ≠ zB) && joinsB t.text tx)
def move1 (t : Tel) (x y : Int) (s : Sty) (tx : ByteArray) : Tel := if goB t x y s tx = true then moveT t x y else t
def turn1 (t : Tel) (u : ByteArray) : Tel := if u = zB then t else seqT t u
def put1 (t : Tel) (W : Int) (n : Nat) (c : Cel) : Tel := ⟨decide (t.x + n < W), t.x + n, t.y, c.st, c.text, t.out ++ c.text⟩
def unitT (W : Int) (t : Tel) (i n : Nat) (c : Cel) : Tel := put1 (turn1 (move1 t ((i : Int) % W) ((i : Int) / W) c.st c.text) (turnB t.st c.st)) W n c
def celD : Cel := ⟨⟨#[]⟩, 0, plainS⟩
def unitsT (W : Int) (L : List Cel) (t : Tel) (l : List (Nat × Nat)) : Tel := l.foldl (fun t p => unitT W t p.1 p.2 (L.getD p.1 celD)) t
theorem unitsT_snoc (W : Int) (L : List Cel) (t : Tel) (l : List (Nat × Nat)) (i n : Nat) : unitsT W L t (l ++ [(i, n)]) = unitT W (unitsT W L t l) i n (L.getD i celD) := by
  unfold unitsT
  rw [List.foldl_append]
  rfl
/-- a writer -/
structure Wri where
  depth : Int
  told : Bool
  last : Scr
  tel : Tel
  shown : Bool
def newB (w : Wri) (r : Scr) : Bool := !w.told || decide (w.last.w ≠ r.w) || decide (w.last.h ≠ r.h)
def start1 (w : Wri) (anew : Bool) : Tel := if anew = true then ⟨true, 0, 0, plainS, zB, clearB⟩ else ⟨w.tel.place, w.tel.x, w.tel.y, w.tel.st, w.tel.text, zB⟩
def from1 (w : Wri) (anew : Bool) (r : Scr) : List Cel := if anew = true then List.replicate r.cells.length blankC else w.last.cells
def curs1 (t : Tel) (r : Scr) : Tel := if (r.shown && (!t.place || decide (t.x ≠ r.x) || decide (t.y ≠ r.y))) = true then moveT t r.x r.y else t
def show1 (t : Tel) (was now : Bool) : Tel := if (now && !was) = true then seqT t showB else if (!now && was) = true then seqT t hideB else t
def frameT (w : Wri) (r : Scr) : Tel :=
  show1 (curs1 (unitsT r.w r.cells (start1 w (newB w r)) (diffU 0 (from1 w (newB w r) r) r.cells)) r) (w.shown && !newB w r) r.shown
def frameW (w : Wri) (s : Scr) : Wri := ⟨w.depth, true, redS s w.depth, frameT w (redS s w.depth), s.shown⟩
end Go.Proofs.YtkllilehdpdbdaaGreatDoor
