/- Styles and patches: what they count as, laid over, put together; the numbers (plain; not built yet). -/
import Derived.Test.YthcdcbibbfdjmaaDoorColA
import Derived.Test.YthcdcbibbfdjmaaDoorByte
namespace Go.Proofs.YthcdcbibbfdjmaaDoor
open Go.RowKit
set_option linter.unusedVariables false

structure Sty where
  fg : Int
  bg : Int
  at_ : B8
  deriving DecidableEq
structure Pat where
  fg : Int
  bg : Int
  add : B8
  drop : B8
  deriving DecidableEq

/-- a colour as it counts in a style -/
def plC (c : Int) : Int := if c = 1 then 0 else cnt c
def countS (s : Sty) : Sty := ⟨plC s.fg, plC s.bg, s.at_⟩
def toldP (p : Pat) : Pat := ⟨cnt p.fg, cnt p.bg, p.add, p.drop &&& ~~~p.add⟩
def layC (c p : Int) : Int := if p = 0 then c else if p = 1 then 0 else p
def over1 (s : Sty) (p : Pat) : Sty := ⟨layC s.fg (cnt p.fg), layC s.bg (cnt p.bg), (s.at_ &&& ~~~p.drop) ||| p.add⟩
def overL (s : Sty) (l : List Pat) : Sty := l.foldl over1 (countS s)
def thenP (p q : Pat) : Pat :=
  ⟨if cnt q.fg = 0 then cnt p.fg else cnt q.fg, if cnt q.bg = 0 then cnt p.bg else cnt q.bg,
   (p.add &&& ~~~(q.drop &&& ~~~q.add)) ||| q.add, ((p.drop &&& ~~~p.add) ||| (q.drop &&& ~~~q.add)) &&& ~~~((p.add &&& ~~~(q.drop &&& ~~~q.add)) ||| q.add)⟩
def emptyP : Pat := ⟨0, 0, 0, 0⟩

/-- numbers of a colour, base 30 or 40 -/
def colL (c base : Int) : List Int :=
  if c = 0 then [base + 9]
  else if 16777216 ≤ c then [base + 8, 2, (c - 16777216) / 65536, (c - 16777216) / 256 % 256, (c - 16777216) % 256]
  else if 272 ≤ c then [base + 8, 5, c - 256]
  else if 264 ≤ c then [base + 60 + (c - 264)]
  else [base + (c - 256)]
def onN (i : Nat) : Int := [1, 2, 3, 4, 5, 7, 8, 9].getD i 0
def offN (i : Nat) : Int := [22, 22, 23, 24, 25, 27, 28, 29].getD i 0
/-- the numbers that set the bits of b -/
def setL (b : B8) : List Int := ((List.range 8).filter fun i => b.getLsbD i).map onN
/-- the numbers that take the bits of b but the two lowest -/
def takeL (b : B8) : List Int := ((List.range 8).filter fun i => decide (2 ≤ i) && b.getLsbD i).map offN
def lightB (a b : B8) : Bool := (a &&& ~~~b) &&& 3 != 0
def oneL (a b : Sty) : List Int :=
  (if lightB a.at_ b.at_ then [22] else []) ++ takeL (a.at_ &&& ~~~b.at_) ++ setL ((b.at_ &&& ~~~a.at_) ||| (if lightB a.at_ b.at_ then b.at_ &&& 3 else 0))
  ++ (if a.fg = b.fg then [] else colL b.fg 30) ++ (if a.bg = b.bg then [] else colL b.bg 40)
def twoL (b : Sty) : List Int := [0] ++ setL b.at_ ++ (if b.fg = 0 then [] else colL b.fg 30) ++ (if b.bg = 0 then [] else colL b.bg 40)
def digN (n : Int) : Int := if n < 10 then 1 else if n < 100 then 2 else 3
def sizeL (l : List Int) : Int := (l.map digN).sum + ((l.length : Int) - 1)
def paramsL (f t : Sty) : List Int :=
  if countS f = countS t then [] else if sizeL (twoL (countS t)) < sizeL (oneL (countS f) (countS t)) then twoL (countS t) else oneL (countS f) (countS t)
end Go.Proofs.YthcdcbibbfdjmaaDoor
