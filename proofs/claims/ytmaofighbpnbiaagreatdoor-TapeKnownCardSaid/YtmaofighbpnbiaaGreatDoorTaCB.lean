/- What lies below tapes (kept of earlier texts: VtPl). -/
import Derived.Test.YtmaofighbpnbiaaGreatDoorTaCA
/- What a terminal is and does, as the program has it (plain; of no program). -/
namespace Go.Proofs.YtmaofighbpnbiaaGreatDoor
open Go.RowKit
set_option linter.unusedVariables false
structure Cur where
 x : Int
 y : Int
 st : Sty
 org : Bool
structure Trm where
 w : Int
 h : Int
 cells : List Cel
 cur : Cur
 away : List Cel
 sav : Cur
 pend : Bool
 wrap : Bool
 ins : Bool
 shown : Bool
 alt : Bool
 top : Int
 bot : Int
 stops : List Bool
 opn : Int
 name : ByteArray
 reps : ByteArray
 wrt : List Bool
 state : Int
 held : ByteArray
 kept : ByteArray
def cur0 : Cur := ⟨0, 0, plainS, false⟩
def stopsV (w : Int) : List Bool := (List.range w.toNat).map fun x => decide (0 < x ∧ x % 8 = 0)
def newV (w h : Int) : Trm :=
  { w := w, h := h, cells := List.replicate (w * h).toNat blankC, cur := cur0, away := List.replicate (w * h).toNat blankC, sav := cur0, pend := false, wrap := true, ins := false, shown := true, alt := false, top := 0, bot := h - 1,
    stops := stopsV w, opn := -1, name := zB, reps := zB, wrt := List.replicate (w * h).toNat false, state := 0, held := zB, kept := zB }
def blkS (s : Sty) : Cel := ⟨⟨#[32]⟩, 1, countS s⟩
def Trm.blank (t : Trm) : Cel := blkS ⟨0, t.cur.st.bg, plainS.at_⟩
def Trm.cell (t : Trm) (i : Nat) : Cel := t.cells.getD i celD
def setX (t : Trm) (x : Int) : Trm := { t with cur := { t.cur with x := x } }
def setY (t : Trm) (y : Int) : Trm := { t with cur := { t.cur with y := y } }
def setSt (t : Trm) (s : Sty) : Trm := { t with cur := { t.cur with st := s } }
def putT (t : Trm) (i : Nat) (c : Cel) : Trm := { t with cells := t.cells.set i c, wrt := t.wrt.set i true }
def splitT (t : Trm) (x y : Int) : Trm :=
 if x ≤ 0 ∨ t.w ≤ x ∨ (t.cell (y * t.w + x).toNat).wide ≠ 0 then t
 else putT (putT t ((y * t.w + x).toNat - 1) (blkS (t.cell ((y * t.w + x).toNat - 1)).st)) (y * t.w + x).toNat (blkS (t.cell (y * t.w + x).toNat).st)
def writeT (t : Trm) (x y : Int) (s : ByteArray) (n : Int) (st : Sty) : Trm :=
 let t1 := putT (splitT (splitT t x y) (x + n) y) (y * t.w + x).toNat ⟨s, n, st⟩
 if n = 2 then putT t1 ((y * t.w + x).toNat + 1) ⟨zB, 0, st⟩ else t1
def standT (t : Trm) (x : Int) : Trm := if t.w ≤ x then { (setX t (t.w - 1)) with pend := t.wrap } else setX t x
def fillT (t : Trm) (f : Nat) : Nat → Trm
 | 0 => t
 | n + 1 => putT (fillT t f n) (f + n) t.blank
def markT (t : Trm) (f : Nat) : Nat → Trm
 | 0 => t
 | n + 1 => { markT t f n with wrt := (markT t f n).wrt.set (f + n) true }
def partT (t : Trm) (f : Nat) (l : List Cel) : Trm := { t with cells := t.cells.take f ++ l ++ t.cells.drop (f + l.length) }
def upL' (l : List Cel) (k : Nat) : List Cel := l.drop k ++ l.drop (l.length - k)
def downL' (l : List Cel) (k : Nat) : List Cel := l.take k ++ l.take (l.length - k)
def absI (n : Int) : Int := max n (-n)
def scrollT (t : Trm) (f e n : Int) : Trm :=
 let a := (f * t.w).toNat
 let z := (e * t.w).toNat
 let l := (t.cells.drop a).take (z - a)
 let k := (min (absI n * t.w) (l.length : Int)).toNat
 if 0 < n then markT (fillT (partT t a (upL' l k)) (z - k) k) a (z - a)
 else markT (fillT (partT t a (downL' l k)) a k) a (z - a)
def indexT (t : Trm) : Trm := if t.cur.y = t.bot then scrollT t t.top (t.bot + 1) 1 else setY t (min (t.cur.y + 1) (t.h - 1))
def reverseT (t : Trm) : Trm := if t.cur.y = t.top then scrollT t t.top (t.bot + 1) (-1) else setY t (max (t.cur.y - 1) 0)
def nextT (t : Trm) : Trm := indexT (setX { t with pend := false } 0)
def shiftT (t : Trm) (n : Int) : Trm :=
 let a := (t.cur.y * t.w + t.cur.x).toNat
 let z := ((t.cur.y + 1) * t.w).toNat
 let t1 := splitT t t.cur.x t.cur.y
 if 0 < n then
  let k := min n ((z - a : Nat) : Int)
  let t2 := splitT t1 (t.w - k) t.cur.y
  markT (fillT (partT t2 a (downL' ((t2.cells.drop a).take (z - a)) k.toNat)) a k.toNat) a (z - a)
 else
  let k := min (-n) ((z - a : Nat) : Int)
  let t2 := splitT t1 (t.cur.x + k) t.cur.y
  markT (fillT (partT t2 a (upL' ((t2.cells.drop a).take (z - a)) k.toNat)) (z - k.toNat) k.toNat) a (z - a)
def eraseT (t : Trm) (f e : Int) : Trm :=
 let t1 := splitT t (f % t.w) (f / t.w)
 let t2 := if e < t.cells.length then splitT t1 (e % t.w) (e / t.w) else t1
 fillT t2 f.toNat (e - f).toNat
def tabF (t : Trm) (d : Int) : Nat → Int → Int
 | 0, x => x
 | f + 1, x => if x + d < 0 ∨ t.w ≤ x + d then x else if t.stops.getD (x + d).toNat false = true then x + d else tabF t d f (x + d)
def tabT (t : Trm) (d : Int) : Trm := setX t (tabF t d (t.w.toNat + 1) t.cur.x)
def restoreT (t : Trm) : Trm :=
 let c := t.sav
 let x := if t.w * t.h = 0 then 0 else max 0 (min c.x (t.w - 1))
 let y := if t.w * t.h = 0 then 0 else max 0 (min c.y (t.h - 1))
 { t with cur := ⟨x, y, c.st, c.org⟩, pend := false }
def homeT (t : Trm) : Trm := { t with cur := { t.cur with x := 0, y := if t.cur.org = true then t.top else 0 } }
def controlT (t0 : Trm) (r : Int) : Trm :=
 let t := { t0 with opn := -1 }
 if t.w * t.h = 0 then t
 else if r = 8 then { (setX t (max 0 (t.cur.x - 1))) with pend := false }
 else if r = 9 then { (tabT t 1) with pend := false }
 else if r = 10 ∨ r = 11 ∨ r = 12 then { (indexT t) with pend := false }
 else if r = 13 then { (setX t 0) with pend := false }
 else t
def widthB (s : ByteArray) : Int := ((splitB s).map (·.2)).sum
def freshT (t0 : Trm) (s : ByteArray) : Trm :=
 let t := { t0 with opn := -1 }
 let n := widthB s
 if n = 0 ∨ t.w < n then t
 else
  let t1 := if t.pend = true then nextT t else t
  if t1.w < t1.cur.x + n ∧ t1.wrap = false then t1
  else
   let t2 := if t1.w < t1.cur.x + n then nextT t1 else t1
   let t3 := if t2.ins = true then shiftT t2 n else t2
   let t4 := { t3 with opn := t3.cur.y * t3.w + t3.cur.x }
   standT (writeT t4 t4.cur.x t4.cur.y s n t4.cur.st) (t4.cur.x + n)
def printT (t : Trm) (s : ByteArray) : Trm :=
 if 0 ≤ t.opn then
  match oneB ((t.cell t.opn.toNat).text ++ s) with
  | some n =>
   let c := t.cell t.opn.toNat
   let x := t.opn % t.w
   let y := t.opn / t.w
   if n = c.wide then writeT t x y (c.text ++ s) n c.st
   else if x < t.w - 1 then standT (writeT t x y (c.text ++ s) n c.st) (x + 2)
   else t
  | none => freshT t s
 else freshT t s
def charB (r : Int) : ByteArray := barr (bytesI r)
def runeT (t : Trm) (r : Int) : Trm :=
 if r = 27 then { t with opn := -1, state := 1 }
 else if r < 32 ∨ 127 ≤ r ∧ r < 160 then controlT t r
 else if 0 < t.w * t.h then printT t (charB r) else t
/-! sequences -/
structure Nums where
 prefix_ : Int
 list : List Int
 void : Bool
def digB (c : Int) : Bool := decide (48 ≤ c) && decide (c ≤ 57)
def parseF : List Int → Int → List Int → Bool → List Int × Bool
 | [], x, l, v => (l ++ [x], v)
 | c :: r, x, l, v => if digB c = true then parseF r (min (10 * x + (c - 48)) 9999) l v else if c = 59 then parseF r 0 (l ++ [x]) v else parseF r x l true
def byL (s : ByteArray) : List Int := s.data.toList.map fun b => (b.toNat : Int)
def parseN (s : ByteArray) : Nums :=
 let b := byL s
 let p := if 60 ≤ b.getD 0 0 then b.getD 0 0 else 0
 let q := parseF (if 60 ≤ b.getD 0 0 then b.drop 1 else b) 0 [] false
 ⟨p, q.1.take 32, q.2⟩
def Nums.count (n : Nums) (i : Nat) : Int := if i < n.list.length then max (n.list.getD i 0) 1 else 1
def replyT (t : Trm) (s : ByteArray) : Trm := if t.reps.size + (s.size + 2) ≤ 65536 then { t with reps := t.reps ++ (⟨#[27, 91]⟩ ++ s) } else t
def reportT (t : Trm) (k : Int) : Trm :=
 if k = 5 then replyT t ⟨#[48, 110]⟩
 else if k = 6 then replyT t (((itB ((if t.cur.org = true then max (t.cur.y - t.top) 0 else t.cur.y) + 1) ++ ⟨#[59]⟩) ++ itB (t.cur.x + 1)) ++ ⟨#[82]⟩)
 else t
def allW (t : Trm) : Trm := { t with wrt := List.replicate t.wrt.length true }
def modeT (t : Trm) (k : Int) (on : Bool) : Trm :=
 if k = 6 then { (homeT { t with cur := { t.cur with org := on } }) with pend := false }
 else if k = 7 then { t with wrap := on, pend := t.pend && on }
 else if k = 25 then { t with shown := on }
 else if k = 1049 then
  let t1 := { t with pend := false }
  if on = t.alt then t1
  else
   let t2 := allW { t1 with alt := on, cells := t.away, away := t.cells }
   if on = true then fillT { t2 with sav := t2.cur } 0 t2.cells.length else restoreT t2
 else t
def upT (t : Trm) (k : Int) : Trm := setY t (max (t.cur.y - k) (if t.top ≤ t.cur.y then t.top else 0))
def downT (t : Trm) (k : Int) : Trm := setY t (min (t.cur.y + k) (if t.cur.y ≤ t.bot then t.bot else t.h - 1))
def rowT (t : Trm) (k : Int) : Trm := setY t (if t.cur.org = true then min (t.top + k - 1) t.bot else min k t.h - 1)
def columnT (t : Trm) (k : Int) : Trm := setX t (min k t.w - 1)
def tabsT (t : Trm) (d : Int) : Nat → Trm
 | 0 => t
 | n + 1 => tabT (tabsT t d n) d
def linesT (t : Trm) (n : Int) : Trm := if t.top ≤ t.cur.y ∧ t.cur.y ≤ t.bot then setX (scrollT t t.cur.y (t.bot + 1) n) 0 else t
def marginsT (t : Trm) (n : Nums) : Trm :=
 let a := n.count 0
 let b := if 1 < n.list.length ∧ 0 < n.list.getD 1 0 then min (n.list.getD 1 0) t.h else t.h
 if a < b then homeT { t with top := a - 1, bot := b - 1 } else t
def eraseLineT (t : Trm) (k : Int) : Trm :=
 if k = 0 then eraseT t (t.cur.y * t.w + t.cur.x) (t.cur.y * t.w + t.w)
 else if k = 1 then eraseT t (t.cur.y * t.w) (t.cur.y * t.w + t.cur.x + 1)
 else if k = 2 then eraseT t (t.cur.y * t.w) (t.cur.y * t.w + t.w)
 else t
def eraseScreenT (t : Trm) (k : Int) : Trm :=
 if k = 0 then eraseT t (t.cur.y * t.w + t.cur.x) t.cells.length
 else if k = 1 then eraseT t 0 (t.cur.y * t.w + t.cur.x + 1)
 else if k = 2 ∨ k = 3 then eraseT t 0 t.cells.length
 else t
def actT? (t : Trm) (b : Int) (n : Nums) : Option Trm :=
 let k := n.count 0
 if b = 65 then some (upT t k) else if b = 66 ∨ b = 101 then some (downT t k) else if b = 67 ∨ b = 97 then some (setX t (min (t.cur.x + k) (t.w - 1))) else if b = 68 then some (setX t (max (t.cur.x - k) 0))
 else if b = 69 then some (setX (downT t k) 0) else if b = 70 then some (setX (upT t k) 0) else if b = 71 ∨ b = 96 then some (columnT t k) else if b = 72 ∨ b = 102 then some (columnT (rowT t k) (n.count 1))
 else if b = 73 then some (tabsT t 1 k.toNat) else if b = 74 then some (eraseScreenT t (n.list.getD 0 0)) else if b = 75 then some (eraseLineT t (n.list.getD 0 0)) else if b = 76 then some (linesT t (-k)) else if b = 77 then some (linesT t k)
 else if b = 80 then some (shiftT t (-k)) else if b = 83 then some (scrollT t t.top (t.bot + 1) k) else if b = 84 then some (scrollT t t.top (t.bot + 1) (-k))
 else if b = 88 then some (eraseT t (t.cur.y * t.w + t.cur.x) (t.cur.y * t.w + t.cur.x + min k (t.w - t.cur.x))) else if b = 90 then some (tabsT t (-1) k.toNat)
 else if b = 64 then some (shiftT t k) else if b = 100 then some (rowT t k) else if b = 114 then some (marginsT t n) else if b = 117 then some (restoreT t) else none
def actT (t : Trm) (b : Int) (n : Nums) : Trm :=
 if b = 103 then
  (if n.list.getD 0 0 = 0 then { t with stops := t.stops.set t.cur.x.toNat false } else if n.list.getD 0 0 = 3 then { t with stops := List.replicate t.stops.length false } else t)
 else if b = 115 then { t with sav := t.cur }
 else match actT? t b n with
  | some t' => { t' with pend := false }
  | none => t
def modesT (t : Trm) (on : Bool) : List Int → Trm
 | [] => t
 | k :: l => modesT (modeT t k on) on l
def sequenceT (t0 : Trm) (b : Int) : Trm :=
 let t := { t0 with opn := -1 }
 let n := parseN t.held
 if n.void = true then t
 else if n.prefix_ = 63 ∧ (b = 104 ∨ b = 108) then modesT t (decide (b = 104)) n.list
 else if n.prefix_ ≠ 0 then t
 else if b = 109 then setSt t (applyL t.cur.st n.list)
 else if b = 110 then reportT t (n.list.getD 0 0)
 else if b = 99 then (if n.list.getD 0 0 = 0 then replyT t ⟨#[63, 54, 99]⟩ else t)
 else if b = 104 ∨ b = 108 then (if 4 ∈ n.list then { t with ins := decide (b = 104) } else t)
 else if 0 < t.w * t.h then actT t b n else t
/-! bytes -/
def cleanB (s : ByteArray) : ByteArray := barr (textI (runesB s))
def titledT (t : Trm) : Trm :=
 let b := byL t.held
 if (b.getD 0 0 = 48 ∨ b.getD 0 0 = 50) ∧ b.getD 1 0 = 59 then { t with name := cleanB (t.held.extract 2 t.held.size) } else t
def pushB (s : ByteArray) (b : Int) : ByteArray := s ++ ⟨#[UInt8.ofNat b.toNat]⟩
def withinT (t : Trm) (b : Int) : Trm :=
 if b = 27 then { t with state := t.state + 2 }
 else if t.state = 5 then t
 else if b = 7 then { (titledT t) with state := 0 }
 else if t.held.size < 1024 then { t with held := pushB t.held b } else t
def escapedT (t0 : Trm) (b : Int) : Trm :=
 let t1 := { t0 with state := 0 }
 let t := if b = 91 then { t1 with state := 3, held := zB } else if b = 93 then { t1 with state := 4, held := zB } else if b = 80 ∨ b = 88 ∨ b = 94 ∨ b = 95 then { t1 with state := 5 }
  else if b = 99 then allW { newV t1.w t1.h with reps := t1.reps } else if b = 55 then { t1 with sav := t1.cur } else if b = 56 then restoreT t1 else t1
 if t.w * t.h = 0 then t
 else if b = 69 then { (indexT (setX t 0)) with pend := false }
 else if b = 68 then { (indexT t) with pend := false }
 else if b = 77 then { (reverseT t) with pend := false }
 else if b = 72 then { t with stops := t.stops.set t.cur.x.toNat true }
 else t
def goO (t : ByteArray) : Nat → Nat → Nat → Nat → Bool
 | 0, _, _, _ => false
 | f + 1, lo, hi, i => if i = t.size then true else if byt t i < lo ∨ hi < byt t i then false else goO t f 128 191 (i + 1)
def openB (s : ByteArray) : Bool := decide (2 ≤ (leadN (byt s 0)).1) && goO s ((leadN (byt s 0)).1 - 1) (leadN (byt s 0)).2.1 (leadN (byt s 0)).2.2 1
def certF : Nat → ByteArray → List Int × ByteArray
 | 0, s => ([], zB)
 | f + 1, s =>
  if s.size = 0 then ([], zB)
  else if openB s = true then ([], s)
  else (((decB s).1 : Int) :: (certF f (s.extract (decB s).2 s.size)).1, (certF f (s.extract (decB s).2 s.size)).2)
def certB (s : ByteArray) : List Int × ByteArray := certF s.size s
def runesT (t : Trm) (l : List Int) : Trm := l.foldl runeT t
def takeG (t : Trm) (b : Int) : Trm := runesT { t with kept := (certB (pushB t.kept b)).2 } (certB (pushB t.kept b)).1
def takeE (t : Trm) (b : Int) : Trm :=
 if b = 27 then { t with state := 1 }
 else if b < 32 then controlT t b
 else if b = 127 then t
 else if 127 < b then takeG { t with state := 0 } b
 else if t.state = 3 then (if b < 64 then { t with held := pushB t.held b } else sequenceT { t with state := 0 } b)
 else if b < 48 then { t with state := 2 }
 else if t.state = 2 then { t with state := 0 }
 else escapedT t b
def takeT (t : Trm) (b : Int) : Trm :=
 if t.state = 0 then takeG t b
 else if b = 24 ∨ b = 26 then { t with state := 0 }
 else if t.state = 6 ∨ t.state = 7 then
  (if b ≠ 92 then takeE { t with state := 1 } b else if t.state = 6 then { (titledT t) with state := 0 } else { t with state := 0 })
 else if t.state = 4 ∨ t.state = 5 then withinT t b
 else takeE t b
def feedT (t : Trm) (l : List Int) : Trm := l.foldl takeT t
def seenT (t : Trm) : Scr := if t.shown = true ∧ 0 < t.w * t.h then ⟨t.w, t.h, t.cells, t.cur.x, t.cur.y, true⟩ else ⟨t.w, t.h, t.cells, 0, 0, false⟩
end Go.Proofs.YtmaofighbpnbiaaGreatDoor
/- What ESC and c make of any terminal (plain). -/
namespace Go.Proofs.YtmaofighbpnbiaaGreatDoor
open Go.RowKit
set_option linter.unusedVariables false
set_option linter.unusedSimpArgs false
theorem push_size (k : ByteArray) (b : Int) : (pushB k b).size = k.size + 1 := by
 unfold pushB
 rw [ByteArray.size_append]
 rfl
theorem push_old (k : ByteArray) (b : Int) (i : Nat) (h : i < k.size) : byt (pushB k b) i = byt k i := by
 have h2 : i < (pushB k b).size := by rw [push_size]; omega
 unfold byt
 rw [get_at _ _ h2, get_at _ _ h]
 congr 1
 unfold pushB
 exact ByteArray.getElem_append_left h
theorem push_new (k : ByteArray) (b : Int) (h : 0 ≤ b ∧ b < 256) : byt (pushB k b) k.size = b.toNat := by
 have h2 : k.size < (pushB k b).size := by rw [push_size]; omega
 unfold byt
 rw [get_at _ _ h2]
 have e : (pushB k b).data = k.data ++ #[UInt8.ofNat b.toNat] := by unfold pushB; exact ByteArray.data_append
 have : (pushB k b)[k.size] = UInt8.ofNat b.toNat := by
  obtain ⟨d⟩ := k
  show (pushB ⟨d⟩ b).data[d.size]'_ = _
  simp only [e]
  exact Array.getElem_push_eq
 rw [this, UInt8.toNat_ofNat']
 omega
def KeptOk (k : ByteArray) : Prop := k = zB ∨ openB k = true
theorem open_pos {s : ByteArray} (h : openB s = true) : 0 < s.size := by
 unfold openB at h
 simp only [Bool.and_eq_true, decide_eq_true_eq] at h
 rcases Nat.eq_zero_or_pos s.size with z | z
 ·exfalso
  have e : s = zB := by
   apply ByteArray.ext
   have : s.data.size = 0 := z
   rw [Array.eq_empty_of_size_eq_zero this]
   rfl
  rw [e] at h
  exact absurd h.1 (by decide)
 ·exact z
def Dim (t t' : Trm) : Prop := t'.w = t.w ∧ t'.h = t.h
theorem Dim.refl (t : Trm) : Dim t t := ⟨rfl, rfl⟩
theorem Dim.trans {a b c : Trm} (h : Dim a b) (k : Dim b c) : Dim a c := ⟨k.1.trans h.1, k.2.trans h.2⟩
theorem dim_split (t : Trm) (x y : Int) : Dim t (splitT t x y) := by
 unfold splitT
 split
 ·exact Dim.refl t
 ·exact ⟨rfl, rfl⟩
theorem dim_fill (t : Trm) (f : Nat) : ∀ n, Dim t (fillT t f n)
 | 0 => Dim.refl t
 | n + 1 => (dim_fill t f n).trans ⟨rfl, rfl⟩
theorem dim_mark (t : Trm) (f : Nat) : ∀ n, Dim t (markT t f n)
 | 0 => Dim.refl t
 | n + 1 => (dim_mark t f n).trans ⟨rfl, rfl⟩
theorem dim_part (t : Trm) (f : Nat) (l : List Cel) : Dim t (partT t f l) := ⟨rfl, rfl⟩
theorem dim_scroll (t : Trm) (f e n : Int) : Dim t (scrollT t f e n) := by
 unfold scrollT
 simp only
 split
 ·exact ((dim_part _ _ _).trans (dim_fill _ _ _)).trans (dim_mark _ _ _)
 ·exact ((dim_part _ _ _).trans (dim_fill _ _ _)).trans (dim_mark _ _ _)
theorem dim_index (t : Trm) : Dim t (indexT t) := by
 unfold indexT
 split
 ·exact dim_scroll _ _ _ _
 ·exact ⟨rfl, rfl⟩
theorem dim_next (t : Trm) : Dim t (nextT t) := Dim.trans (b := setX { t with pend := false } 0) ⟨rfl, rfl⟩ (dim_index _)
theorem dim_shift (t : Trm) (n : Int) : Dim t (shiftT t n) := by
 unfold shiftT
 simp only
 split
 ·exact (((((dim_split _ _ _).trans (dim_split _ _ _)).trans (dim_part _ _ _)).trans (dim_fill _ _ _)).trans (dim_mark _ _ _))
 ·exact (((((dim_split _ _ _).trans (dim_split _ _ _)).trans (dim_part _ _ _)).trans (dim_fill _ _ _)).trans (dim_mark _ _ _))
structure StOk (t : Trm) : Prop where
 s0 : 0 ≤ t.state
 s7 : t.state ≤ 7
 kept : KeptOk t.kept
end Go.Proofs.YtmaofighbpnbiaaGreatDoor
/- What is kept between bytes (plain). -/
namespace Go.Proofs.YtmaofighbpnbiaaGreatDoor
open Go.RowKit
set_option linter.unusedVariables false
set_option linter.unusedSimpArgs false
theorem goO_size (s : ByteArray) : ∀ f lo hi i, goO s f lo hi i = true → s.size < i + f := by
 intro f
 induction f with
 | zero => intro lo hi i h; unfold goO at h; cases h
 | succ f ih =>
  intro lo hi i h
  unfold goO at h
  split at h
  ·omega
  ·split at h
   ·cases h
   ·have := ih _ _ _ h; omega
theorem open_size {s : ByteArray} (h : openB s = true) : s.size ≤ 3 := by
 unfold openB at h
 simp only [Bool.and_eq_true, decide_eq_true_eq] at h
 have := goO_size _ _ _ _ _ h.2
 have := lead_le (byt s 0)
 omega
theorem cert_kept : ∀ f s, s.size ≤ f → KeptOk (certF f s).2 := by
 intro f
 induction f with
 | zero => intro s h; exact Or.inl rfl
 | succ f ih =>
  intro s h
  unfold certF
  by_cases z : s.size = 0
  ·rw [if_pos z]; exact Or.inl rfl
  ·rw [if_neg z]
   by_cases o : openB s = true
   ·rw [if_pos o]; exact Or.inr o
   ·rw [if_neg o]
    have b := decB_bounds s (by omega)
    exact ih _ (by rw [ByteArray.size_extract]; omega)
theorem certB_kept (s : ByteArray) : KeptOk (certB s).2 := cert_kept _ s (Nat.le_refl _)
theorem cert_len : ∀ f s, (certF f s).1.length ≤ f := by
 intro f
 induction f with
 | zero => intro s; exact Nat.le_refl _
 | succ f ih =>
  intro s
  unfold certF
  split
  ·exact Nat.zero_le _
  ·split
   ·exact Nat.zero_le _
   ·show _ + 1 ≤ _
    have := ih (s.extract (decB s).2 s.size)
    omega
theorem kept_size {k : ByteArray} (h : KeptOk k) : k.size ≤ 3 := by
 rcases h with rfl | h
 ·exact Nat.zero_le _
 ·exact open_size h
structure Kst (t t' : Trm) : Prop where
 state : t'.state = t.state
 kept : t'.kept = t.kept
theorem Kst.refl (t : Trm) : Kst t t := ⟨rfl, rfl⟩
theorem Kst.trans {a b c : Trm} (h : Kst a b) (k : Kst b c) : Kst a c := ⟨k.1.trans h.1, k.2.trans h.2⟩
theorem kst_split (t : Trm) (x y : Int) : Kst t (splitT t x y) := by unfold splitT; split <;> exact ⟨rfl, rfl⟩
theorem kst_write (t : Trm) (x y : Int) (s : ByteArray) (n : Int) (st : Sty) : Kst t (writeT t x y s n st) := by
 have h := (kst_split t x y).trans (kst_split (splitT t x y) (x + n) y)
 unfold writeT
 simp only
 split <;> exact h.trans ⟨rfl, rfl⟩
theorem kst_stand (t : Trm) (x : Int) : Kst t (standT t x) := by unfold standT; split <;> exact ⟨rfl, rfl⟩
theorem kst_fill (t : Trm) (f : Nat) : ∀ n, Kst t (fillT t f n)
 | 0 => Kst.refl t
 | n + 1 => (kst_fill t f n).trans ⟨rfl, rfl⟩
theorem kst_mark (t : Trm) (f : Nat) : ∀ n, Kst t (markT t f n)
 | 0 => Kst.refl t
 | n + 1 => (kst_mark t f n).trans ⟨rfl, rfl⟩
theorem kst_part (t : Trm) (f : Nat) (l : List Cel) : Kst t (partT t f l) := ⟨rfl, rfl⟩
theorem kst_scroll (t : Trm) (f e n : Int) : Kst t (scrollT t f e n) := by
 unfold scrollT
 simp only
 split <;> exact ((kst_part _ _ _).trans (kst_fill _ _ _)).trans (kst_mark _ _ _)
theorem kst_index (t : Trm) : Kst t (indexT t) := by
 unfold indexT
 split
 ·exact kst_scroll _ _ _ _
 ·exact ⟨rfl, rfl⟩
theorem kst_reverse (t : Trm) : Kst t (reverseT t) := by
 unfold reverseT
 split
 ·exact kst_scroll _ _ _ _
 ·exact ⟨rfl, rfl⟩
theorem kst_next (t : Trm) : Kst t (nextT t) := Kst.trans (b := setX { t with pend := false } 0) ⟨rfl, rfl⟩ (kst_index _)
theorem kst_shift (t : Trm) (n : Int) : Kst t (shiftT t n) := by
 unfold shiftT
 simp only
 split <;> exact (((((kst_split _ _ _).trans (kst_split _ _ _)).trans (kst_part _ _ _)).trans (kst_fill _ _ _)).trans (kst_mark _ _ _))
theorem kst_erase (t : Trm) (f e : Int) : Kst t (eraseT t f e) := by
 unfold eraseT
 simp only
 split
 ·exact ((kst_split _ _ _).trans (kst_split _ _ _)).trans (kst_fill _ _ _)
 ·exact (kst_split _ _ _).trans (kst_fill _ _ _)
theorem kst_fresh (t : Trm) (s : ByteArray) : Kst t (freshT t s) := by
 unfold freshT
 simp only
 have h0 : Kst t { t with opn := -1 } := ⟨rfl, rfl⟩
 split
 ·exact h0
 ·have h1 : Kst t (if ({ t with opn := -1 } : Trm).pend = true then nextT { t with opn := -1 } else { t with opn := -1 }) := by
   split
   ·exact h0.trans (kst_next _)
   ·exact h0
  generalize (if ({ t with opn := -1 } : Trm).pend = true then nextT { t with opn := -1 } else { t with opn := -1 }) = t1 at *
  split
  ·exact h1
  ·have h2 : Kst t (if t1.w < t1.cur.x + widthB s then nextT t1 else t1) := by
    split
    ·exact h1.trans (kst_next _)
    ·exact h1
   generalize (if t1.w < t1.cur.x + widthB s then nextT t1 else t1) = t2 at *
   have h3 : Kst t (if t2.ins = true then shiftT t2 (widthB s) else t2) := by
    split
    ·exact h2.trans (kst_shift _ _)
    ·exact h2
   generalize (if t2.ins = true then shiftT t2 (widthB s) else t2) = t3 at *
   exact (Kst.trans (b := { t3 with opn := t3.cur.y * t3.w + t3.cur.x }) (h3.trans ⟨rfl, rfl⟩) (kst_write _ _ _ _ _ _)).trans (kst_stand _ _)
theorem kst_print (t : Trm) (s : ByteArray) : Kst t (printT t s) := by
 unfold printT
 split
 ·split
  ·simp only
   split
   ·exact kst_write _ _ _ _ _ _
   ·split
    ·exact (kst_write _ _ _ _ _ _).trans (kst_stand _ _)
    ·exact Kst.refl t
  ·exact kst_fresh t s
 ·exact kst_fresh t s
theorem kst_tab (t : Trm) (d : Int) : Kst t (tabT t d) := ⟨rfl, rfl⟩
theorem kst_control (t : Trm) (r : Int) : Kst t (controlT t r) := by
 have h0 : Kst t { t with opn := -1 } := ⟨rfl, rfl⟩
 unfold controlT
 simp only
 repeat' split
 all_goals first
 | exact h0
 | exact ⟨rfl, rfl⟩
 | exact (h0.trans (kst_index _)).trans ⟨rfl, rfl⟩
structure Stk (t t' : Trm) : Prop where
 kept : t'.kept = t.kept
 state : t'.state = t.state ∨ t'.state = 1
theorem Kst.stk {t t' : Trm} (h : Kst t t') : Stk t t' := ⟨h.kept, Or.inl h.state⟩
theorem stk_rune (t : Trm) (r : Int) : Stk t (runeT t r) := by
 unfold runeT
 split
 ·exact ⟨rfl, Or.inr rfl⟩
 ·split
  ·exact (kst_control t r).stk
  ·split
   ·exact (kst_print _ _).stk
   ·exact (Kst.refl t).stk
theorem stk_runes (l : List Int) : ∀ t : Trm, (runesT t l).kept = t.kept ∧ ((runesT t l).state = t.state ∨ (runesT t l).state = 1) := by
 induction l with
 | nil => intro t; exact ⟨rfl, Or.inl rfl⟩
 | cons r l ih =>
  intro t
  have a := stk_rune t r
  have b := ih (runeT t r)
  show (runesT (runeT t r) l).kept = _ ∧ _
  refine ⟨b.1.trans a.kept, ?_⟩
  show (runesT (runeT t r) l).state = t.state ∨ (runesT (runeT t r) l).state = 1
  rcases b.2 with b | b
  ·rcases a.state with a | a
   ·exact Or.inl (b.trans a)
   ·exact Or.inr (b.trans a)
  ·exact Or.inr b
theorem takeG_ok (t : Trm) (b : Int) (h : t.state = 0) : StOk (takeG t b) := by
 unfold takeG
 have q := stk_runes (certB (pushB t.kept b)).1 { t with kept := (certB (pushB t.kept b)).2 }
 obtain ⟨q1, q2⟩ := q
 have q2 : (runesT { t with kept := (certB (pushB t.kept b)).2 } (certB (pushB t.kept b)).1).state = t.state ∨ (runesT { t with kept := (certB (pushB t.kept b)).2 } (certB (pushB t.kept b)).1).state = 1 := q2
 exact ⟨by omega, by omega, by rw [q1]; exact certB_kept _⟩
theorem kst_reply (t : Trm) (s : ByteArray) : Kst t (replyT t s) := by unfold replyT; split <;> exact ⟨rfl, rfl⟩
theorem kst_report (t : Trm) (k : Int) : Kst t (reportT t k) := by
 unfold reportT
 split
 ·exact kst_reply _ _
 ·split
  ·exact kst_reply _ _
  ·exact Kst.refl t
theorem kst_mode (t : Trm) (k : Int) (on : Bool) : Kst t (modeT t k on) := by
 unfold modeT
 simp only
 repeat' split
 all_goals first
 | exact ⟨rfl, rfl⟩
 | exact (Kst.trans (b := { (allW { t with pend := false, alt := on, cells := t.away, away := t.cells }) with sav := t.cur }) ⟨rfl, rfl⟩ (kst_fill _ _ _))
theorem kst_modes (on : Bool) : ∀ (l : List Int) (t : Trm), Kst t (modesT t on l)
 | [], t => Kst.refl t
 | k :: l, t => (kst_mode t k on).trans (kst_modes on l _)
theorem kst_tabs (t : Trm) (d : Int) : ∀ n, Kst t (tabsT t d n)
 | 0 => Kst.refl t
 | n + 1 => (kst_tabs t d n).trans (kst_tab _ _)
theorem kst_lines (t : Trm) (n : Int) : Kst t (linesT t n) := by
 unfold linesT
 split
 ·exact (kst_scroll _ _ _ _).trans ⟨rfl, rfl⟩
 ·exact Kst.refl t
theorem kst_eraseLine (t : Trm) (k : Int) : Kst t (eraseLineT t k) := by
 unfold eraseLineT
 repeat' split
 all_goals first
 | exact kst_erase _ _ _
 | exact Kst.refl t
theorem kst_eraseScreen (t : Trm) (k : Int) : Kst t (eraseScreenT t k) := by
 unfold eraseScreenT
 repeat' split
 all_goals first
 | exact kst_erase _ _ _
 | exact Kst.refl t
theorem kst_margins (t : Trm) (n : Nums) : Kst t (marginsT t n) := by
 unfold marginsT
 simp only
 repeat' split
 all_goals exact ⟨rfl, rfl⟩
theorem ite_opt {P : Trm → Prop} {c : Prop} [Decidable c] {x : Trm} {r : Option Trm} (h1 : P x) (h2 : ∀ t', r = some t' → P t') : ∀ t', (if c then some x else r) = some t' → P t' := by
 intro t' h
 split at h
 ·cases h; exact h1
 ·exact h2 t' h
theorem kst_act? (t : Trm) (b : Int) (n : Nums) : ∀ t', actT? t b n = some t' → Kst t t' := by
 unfold actT?
 simp only
 repeat (refine ite_opt (P := Kst t) (by first | exact ⟨rfl, rfl⟩ | exact kst_tabs _ _ _ | exact kst_eraseScreen _ _ | exact kst_eraseLine _ _ | exact kst_lines _ _ | exact kst_shift _ _ | exact kst_scroll _ _ _ _ | exact kst_erase _ _ _ | exact kst_margins _ _) ?_)
 intro t' h
 cases h
theorem kst_act (t : Trm) (b : Int) (n : Nums) : Kst t (actT t b n) := by
 unfold actT
 split
 ·repeat' split
  all_goals exact ⟨rfl, rfl⟩
 ·split
  ·exact ⟨rfl, rfl⟩
  ·cases h : actT? t b n with
   | none => exact Kst.refl t
   | some t' =>
    have := kst_act? t b n t' h
    exact ⟨this.state, this.kept⟩
theorem kst_sequence (t : Trm) (b : Int) : Kst t (sequenceT t b) := by
 have h0 : Kst t { t with opn := -1 } := ⟨rfl, rfl⟩
 unfold sequenceT
 simp only
 repeat' split
 all_goals first
 | exact h0
 | exact h0.trans (kst_modes _ _ _)
 | exact ⟨rfl, rfl⟩
 | exact h0.trans (kst_report _ _)
 | exact h0.trans (kst_reply _ _)
 | exact h0.trans (kst_act _ _ _)
theorem titled_kst (t : Trm) : Kst t (titledT t) := by
 unfold titledT
 simp only
 split <;> exact ⟨rfl, rfl⟩
theorem escaped_ok (t : Trm) (b : Int) (h : StOk t) : StOk (escapedT t b) := by
 have z : KeptOk zB := Or.inl rfl
 have key : ∀ u : Trm, StOk u → StOk (if u.w * u.h = 0 then u else if b = 69 then { (indexT (setX u 0)) with pend := false } else if b = 68 then { (indexT u) with pend := false } else if b = 77 then { (reverseT u) with pend := false } else if b = 72 then { u with stops := u.stops.set u.cur.x.toNat true } else u) := by
  intro u hu
  have i1 := kst_index (setX u 0)
  have i2 := kst_index u
  have i3 := kst_reverse u
  repeat' split
  ·exact hu
  ·exact ⟨by show 0 ≤ (indexT (setX u 0)).state; rw [i1.state]; exact hu.s0, by show (indexT (setX u 0)).state ≤ 7; rw [i1.state]; exact hu.s7, by show KeptOk (indexT (setX u 0)).kept; rw [i1.kept]; exact hu.kept⟩
  ·exact ⟨by show 0 ≤ (indexT u).state; rw [i2.state]; exact hu.s0, by show (indexT u).state ≤ 7; rw [i2.state]; exact hu.s7, by show KeptOk (indexT u).kept; rw [i2.kept]; exact hu.kept⟩
  ·exact ⟨by show 0 ≤ (reverseT u).state; rw [i3.state]; exact hu.s0, by show (reverseT u).state ≤ 7; rw [i3.state]; exact hu.s7, by show KeptOk (reverseT u).kept; rw [i3.kept]; exact hu.kept⟩
  ·exact ⟨hu.s0, hu.s7, hu.kept⟩
  ·exact hu
 unfold escapedT
 simp only
 refine key _ ?_
 have m : ∀ (n : Int) (k : ByteArray) (u : Trm), u.state = n → u.kept = k → 0 ≤ n → n ≤ 7 → KeptOk k → StOk u := fun n k u e1 e2 h1 h2 h3 => ⟨by omega, by omega, by rw [e2]; exact h3⟩
 repeat' split
 ·exact m 3 t.kept _ rfl rfl (by decide) (by decide) h.kept
 ·exact m 4 t.kept _ rfl rfl (by decide) (by decide) h.kept
 ·exact m 5 t.kept _ rfl rfl (by decide) (by decide) h.kept
 ·exact m 0 zB _ rfl rfl (by decide) (by decide) z
 ·exact m 0 t.kept _ rfl rfl (by decide) (by decide) h.kept
 ·exact m 0 t.kept _ rfl rfl (by decide) (by decide) h.kept
 ·exact m 0 t.kept _ rfl rfl (by decide) (by decide) h.kept
theorem takeE_ok (t : Trm) (b : Int) (h : StOk t) : StOk (takeE t b) := by
 have m : ∀ (n : Int) (u : Trm), u.state = n → u.kept = t.kept → 0 ≤ n → n ≤ 7 → StOk u := fun n u e1 e2 h1 h2 => ⟨by omega, by omega, by rw [e2]; exact h.kept⟩
 have c := kst_control t b
 have q := kst_sequence { t with state := 0 } b
 unfold takeE
 repeat' split
 ·exact m 1 _ rfl rfl (by decide) (by decide)
 ·exact m t.state _ c.state c.kept h.s0 h.s7
 ·exact h
 ·exact takeG_ok _ _ rfl
 ·exact m t.state _ rfl rfl h.s0 h.s7
 ·exact m 0 _ q.state q.kept (by decide) (by decide)
 ·exact m 2 _ rfl rfl (by decide) (by decide)
 ·exact m 0 _ rfl rfl (by decide) (by decide)
 ·exact escaped_ok t b h
theorem take_ok (t : Trm) (b : Int) (h : StOk t) : StOk (takeT t b) := by
 have m : ∀ (n : Int) (u : Trm), u.state = n → u.kept = t.kept → 0 ≤ n → n ≤ 7 → StOk u := fun n u e1 e2 h1 h2 => ⟨by omega, by omega, by rw [e2]; exact h.kept⟩
 have s0 := h.s0
 have s7 := h.s7
 have tk := titled_kst t
 unfold takeT
 split
 ·rename_i e; exact takeG_ok t b e
 ·split
  ·exact m 0 _ rfl rfl (by decide) (by decide)
  ·split
   ·split
    ·exact takeE_ok _ b (m 1 _ rfl rfl (by decide) (by decide))
    ·split
     ·exact m 0 _ rfl tk.kept (by decide) (by decide)
     ·exact m 0 _ rfl rfl (by decide) (by decide)
   ·split
    ·rename_i e
     unfold withinT
     split
     ·exact m (t.state + 2) _ rfl rfl (by omega) (by omega)
     ·split
      ·exact h
      ·split
       ·exact m 0 _ rfl tk.kept (by decide) (by decide)
       ·split
        ·exact m t.state _ rfl rfl s0 s7
        ·exact h
    ·exact takeE_ok t b h
theorem new_ok (w h : Int) : StOk (newV w h) := ⟨Int.le_refl 0, by show (0 : Int) ≤ 7; decide, Or.inl rfl⟩
end Go.Proofs.YtmaofighbpnbiaaGreatDoor
/- What every terminal keeps: its sizes, a cursor that lies within (plain). -/
namespace Go.Proofs.YtmaofighbpnbiaaGreatDoor
open Go.RowKit
set_option linter.unusedVariables false
set_option linter.unusedSimpArgs false
theorem clL_mem : ∀ (n : Nat) (l : List Int), l.length ≤ n → ∀ c ∈ clL l, c.1.length ≤ 64 ∧ (c.2 = 0 ∨ c.2 = 1 ∨ c.2 = 2) := by
 intro n
 induction n with
 | zero => intro l h c hc; rw [List.length_eq_zero_iff.1 (by omega : l.length = 0), clL_nil] at hc; cases hc
 | succ n ih =>
  intro l h c hc
  by_cases e : l = []
  ·rw [e, clL_nil] at hc; cases hc
  ·obtain ⟨f1, f2, f3⟩ := firstC_bounds l e
   rw [clL_cons l e] at hc
   rcases List.mem_cons.1 hc with rfl | m
   ·have := textI_len (l.take (firstC l))
    rw [List.length_take] at this
    exact ⟨by show (textI (l.take (firstC l))).length ≤ 64; omega, wideC_le _⟩
   ·exact ih _ (by rw [List.length_drop]; omega) c m
theorem splitB_mem (s : ByteArray) : ∀ c ∈ splitB s, c.1.size ≤ 64 ∧ (c.2 = 0 ∨ c.2 = 1 ∨ c.2 = 2) := by
 intro c hc
 unfold splitB at hc
 obtain ⟨d, hd, rfl⟩ := List.mem_map.1 hc
 obtain ⟨a, b⟩ := clL_mem _ _ (Nat.le_refl _) d hd
 refine ⟨?_, b⟩
 show (barr d.1).size ≤ 64
 unfold barr
 simp [ByteArray.size]
 exact a
structure Fine (t : Trm) : Prop where
 w0 : 0 ≤ t.w
 w1 : t.w ≤ 4096
 h0 : 0 ≤ t.h
 h1 : t.h ≤ 4096
 ar : t.w * t.h ≤ 1048576
 cl : (t.cells.length : Int) = t.w * t.h
 al : (t.away.length : Int) = t.w * t.h
 wl : (t.wrt.length : Int) = t.w * t.h
 sl : (t.stops.length : Int) = t.w
 x0 : 0 ≤ t.cur.x
 y0 : 0 ≤ t.cur.y
 cx : t.cur.x < t.w ∨ t.cur.x = 0
 cy : t.cur.y < t.h ∨ t.cur.y = 0
 p0 : 0 ≤ t.top
 p1 : t.top ≤ t.bot ∨ t.h = 0 ∧ t.top = 0
 p2 : t.bot < t.h
def Some' (t : Trm) : Prop := 0 < t.w ∧ 0 < t.h
theorem Fine.some {t : Trm} (h : Fine t) (n : ¬ t.w * t.h = 0) : Some' t := by
 have a := h.w0
 have b := h.h0
 refine ⟨?_, ?_⟩
 ·rcases Int.lt_or_eq_of_le a with c | c
  ·exact c
  ·exfalso; apply n; rw [← c]; exact Int.zero_mul _
 ·rcases Int.lt_or_eq_of_le b with c | c
  ·exact c
  ·exfalso; apply n; rw [← c]; exact Int.mul_zero _
theorem Fine.row {t : Trm} (h : Fine t) {y : Int} (y0 : 0 ≤ y) (y1 : y < t.h) : 0 ≤ y * t.w ∧ y * t.w + t.w ≤ t.w * t.h := by
 have a := h.w0
 refine ⟨Int.mul_nonneg y0 a, ?_⟩
 have e : y * t.w + t.w = (y + 1) * t.w := by rw [Int.add_mul, Int.one_mul]
 rw [e, Int.mul_comm t.w t.h]
 exact Int.mul_le_mul_of_nonneg_right (by omega) a
structure Cw (t t' : Trm) : Prop where
 eq : t' = { t with cells := t'.cells, wrt := t'.wrt }
 cl : t'.cells.length = t.cells.length
 wl : t'.wrt.length = t.wrt.length
theorem Cw.refl (t : Trm) : Cw t t := ⟨rfl, rfl, rfl⟩
theorem Cw.trans {a b c : Trm} (h : Cw a b) (k : Cw b c) : Cw a c := by
 obtain ⟨e, h1, h2⟩ := h
 obtain ⟨f, k1, k2⟩ := k
 refine ⟨?_, k1.trans h1, k2.trans h2⟩
 rw [f, e]
theorem Cw.w {t t' : Trm} (h : Cw t t') : t'.w = t.w := by rw [h.eq]
theorem Cw.h {t t' : Trm} (h : Cw t t') : t'.h = t.h := by rw [h.eq]
theorem Cw.cur {t t' : Trm} (h : Cw t t') : t'.cur = t.cur := by rw [h.eq]
theorem Cw.opn {t t' : Trm} (h : Cw t t') : t'.opn = t.opn := by rw [h.eq]
theorem Cw.held {t t' : Trm} (h : Cw t t') : t'.held = t.held := by rw [h.eq]
theorem Cw.reps {t t' : Trm} (h : Cw t t') : t'.reps = t.reps := by rw [h.eq]
theorem Fine.cw {t t' : Trm} (h : Fine t) (k : Cw t t') : Fine t' := by
 obtain ⟨e, a, b⟩ := k
 generalize t'.cells = c at *
 generalize t'.wrt = u at *
 subst e
 exact ⟨h.w0, h.w1, h.h0, h.h1, h.ar, by show (c.length : Int) = _; rw [a]; exact h.cl, h.al, by show (u.length : Int) = _; rw [b]; exact h.wl, h.sl, h.x0, h.y0, h.cx, h.cy, h.p0, h.p1, h.p2⟩
theorem Cw.some {t t' : Trm} (h : Cw t t') (p : Some' t) : Some' t' := by unfold Some' at p ⊢; rw [h.w, h.h]; exact p
theorem cw_put (t : Trm) (i : Nat) (c : Cel) : Cw t (putT t i c) := ⟨rfl, List.length_set, List.length_set⟩
theorem cw_split (t : Trm) (x y : Int) : Cw t (splitT t x y) := by
 unfold splitT
 split
 ·exact Cw.refl t
 ·exact (cw_put _ _ _).trans (cw_put _ _ _)
theorem cw_write (t : Trm) (x y : Int) (s : ByteArray) (n : Int) (st : Sty) : Cw t (writeT t x y s n st) := by
 have h := (cw_split t x y).trans (cw_split (splitT t x y) (x + n) y)
 unfold writeT
 simp only
 split
 ·exact (h.trans (cw_put _ _ _)).trans (cw_put _ _ _)
 ·exact h.trans (cw_put _ _ _)
theorem cw_fill (t : Trm) (f : Nat) : ∀ n, Cw t (fillT t f n)
 | 0 => Cw.refl t
 | n + 1 => (cw_fill t f n).trans (cw_put _ _ _)
theorem cw_mark (t : Trm) (f : Nat) : ∀ n, Cw t (markT t f n)
 | 0 => Cw.refl t
 | n + 1 => (cw_mark t f n).trans ⟨rfl, rfl, List.length_set⟩
theorem cw_part (t : Trm) (f : Nat) (l : List Cel) (h : l.length ≤ t.cells.length - f) : Cw t (partT t f l) := by
 refine ⟨rfl, ?_, rfl⟩
 unfold partT
 simp only [List.length_append, List.length_take, List.length_drop]
 omega
theorem up_len (l : List Cel) (k : Nat) (h : k ≤ l.length) : (upL' l k).length = l.length := by
 unfold upL'
 simp only [List.length_append, List.length_drop]
 omega
theorem down_len (l : List Cel) (k : Nat) (h : k ≤ l.length) : (downL' l k).length = l.length := by
 unfold downL'
 simp only [List.length_append, List.length_take]
 omega
theorem cut_len (l : List Cel) (a n : Nat) : ((l.drop a).take n).length ≤ l.length - a := by
 simp only [List.length_take, List.length_drop]
 omega
theorem cw_scroll (t : Trm) (f e n : Int) : Cw t (scrollT t f e n) := by
 unfold scrollT
 simp only
 have q := cut_len t.cells (f * t.w).toNat ((e * t.w).toNat - (f * t.w).toNat)
 generalize hl : (t.cells.drop (f * t.w).toNat).take ((e * t.w).toNat - (f * t.w).toNat) = l at *
 split
 ·exact ((cw_part _ _ _ (by rw [up_len _ _ (by omega)]; exact q)).trans (cw_fill _ _ _)).trans (cw_mark _ _ _)
 ·exact ((cw_part _ _ _ (by rw [down_len _ _ (by omega)]; exact q)).trans (cw_fill _ _ _)).trans (cw_mark _ _ _)
theorem cw_erase (t : Trm) (f e : Int) : Cw t (eraseT t f e) := by
 unfold eraseT
 simp only
 split
 ·exact ((cw_split _ _ _).trans (cw_split _ _ _)).trans (cw_fill _ _ _)
 ·exact (cw_split _ _ _).trans (cw_fill _ _ _)
theorem cw_shift (t : Trm) (n : Int) (h : Fine t) (p : Some' t) : Cw t (shiftT t n) := by
 have r := h.row h.y0 (by have := h.cy; have := p.2; omega)
 have e : (t.cur.y + 1) * t.w = t.cur.y * t.w + t.w := by rw [Int.add_mul, Int.one_mul]
 have x0 := h.x0
 have xw : t.cur.x < t.w := by have := h.cx; have := p.1; omega
 have cl := h.cl
 unfold shiftT
 simp only
 rw [e]
 split
 ·have c := (cw_split t t.cur.x t.cur.y).trans (cw_split (splitT t t.cur.x t.cur.y) (t.w - min n (((t.cur.y * t.w + t.w).toNat - (t.cur.y * t.w + t.cur.x).toNat : Nat) : Int)) t.cur.y)
  generalize splitT (splitT t t.cur.x t.cur.y) (t.w - min n (((t.cur.y * t.w + t.w).toNat - (t.cur.y * t.w + t.cur.x).toNat : Nat) : Int)) t.cur.y = u at *
  have ul := c.cl
  refine c.trans (((cw_part _ _ _ ?_).trans (cw_fill _ _ _)).trans (cw_mark _ _ _))
  rw [down_len _ _ (by simp only [List.length_take, List.length_drop]; omega)]
  exact cut_len _ _ _
 ·have c := (cw_split t t.cur.x t.cur.y).trans (cw_split (splitT t t.cur.x t.cur.y) (t.cur.x + min (-n) (((t.cur.y * t.w + t.w).toNat - (t.cur.y * t.w + t.cur.x).toNat : Nat) : Int)) t.cur.y)
  generalize splitT (splitT t t.cur.x t.cur.y) (t.cur.x + min (-n) (((t.cur.y * t.w + t.w).toNat - (t.cur.y * t.w + t.cur.x).toNat : Nat) : Int)) t.cur.y = u at *
  have ul := c.cl
  refine c.trans (((cw_part _ _ _ ?_).trans (cw_fill _ _ _)).trans (cw_mark _ _ _))
  rw [up_len _ _ (by simp only [List.length_take, List.length_drop]; omega)]
  exact cut_len _ _ _
/-! what moves the cursor -/
theorem fine_cur {t t' : Trm} (h : Fine t) (e : t' = { t with cur := t'.cur, pend := t'.pend, opn := t'.opn, state := t'.state, held := t'.held, kept := t'.kept, reps := t'.reps, name := t'.name, ins := t'.ins, wrap := t'.wrap, shown := t'.shown, alt := t'.alt, sav := t'.sav }) (x0 : 0 ≤ t'.cur.x) (y0 : 0 ≤ t'.cur.y) (cx : t'.cur.x < t.w ∨ t'.cur.x = 0) (cy : t'.cur.y < t.h ∨ t'.cur.y = 0) : Fine t' := by
 have ew : t'.w = t.w := by rw [e]
 have eh : t'.h = t.h := by rw [e]
 have ec : t'.cells = t.cells := by rw [e]
 have ea : t'.away = t.away := by rw [e]
 have eu : t'.wrt = t.wrt := by rw [e]
 have es : t'.stops = t.stops := by rw [e]
 have et : t'.top = t.top := by rw [e]
 have eb : t'.bot = t.bot := by rw [e]
 exact ⟨by rw [ew]; exact h.w0, by rw [ew]; exact h.w1, by rw [eh]; exact h.h0, by rw [eh]; exact h.h1, by rw [ew, eh]; exact h.ar, by rw [ec, ew, eh]; exact h.cl, by rw [ea, ew, eh]; exact h.al, by rw [eu, ew, eh]; exact h.wl, by rw [es, ew]; exact h.sl, x0, y0, by rw [ew]; exact cx, by rw [eh]; exact cy, by rw [et]; exact h.p0, by rw [et, eb, eh]; exact h.p1, by rw [eb, eh]; exact h.p2⟩
theorem Fine.still {t t' : Trm} (h : Fine t) (e : t' = { t with cur := t'.cur, pend := t'.pend, opn := t'.opn, state := t'.state, held := t'.held, kept := t'.kept, reps := t'.reps, name := t'.name, ins := t'.ins, wrap := t'.wrap, shown := t'.shown, alt := t'.alt, sav := t'.sav }) (ex : t'.cur.x = t.cur.x) (ey : t'.cur.y = t.cur.y) : Fine t' :=
 fine_cur h e (by rw [ex]; exact h.x0) (by rw [ey]; exact h.y0) (by rw [ex]; exact h.cx) (by rw [ey]; exact h.cy)
theorem fine_setX {t : Trm} (h : Fine t) (x : Int) (x0 : 0 ≤ x) (cx : x < t.w ∨ x = 0) : Fine (setX t x) := fine_cur h rfl x0 h.y0 cx h.cy
theorem fine_setY {t : Trm} (h : Fine t) (y : Int) (y0 : 0 ≤ y) (cy : y < t.h ∨ y = 0) : Fine (setY t y) := fine_cur h rfl h.x0 y0 h.cx cy
theorem fine_pend {t : Trm} (h : Fine t) (b : Bool) : Fine { t with pend := b } := h.still rfl rfl rfl
theorem fine_opn {t : Trm} (h : Fine t) (o : Int) : Fine { t with opn := o } := h.still rfl rfl rfl
theorem fine_index {t : Trm} (h : Fine t) (p : Some' t) : Fine (indexT t) := by
 unfold indexT
 split
 ·exact h.cw (cw_scroll _ _ _ _)
 ·have := p.2
  have := h.y0
  exact fine_setY h _ (by omega) (by omega)
theorem fine_reverse {t : Trm} (h : Fine t) (p : Some' t) : Fine (reverseT t) := by
 unfold reverseT
 split
 ·exact h.cw (cw_scroll _ _ _ _)
 ·have := p.2
  have := h.cy
  exact fine_setY h _ (by omega) (by omega)
theorem dim_some {t t' : Trm} (d : Dim t t') (p : Some' t) : Some' t' := by unfold Some' at p ⊢; rw [d.1, d.2]; exact p
theorem fine_next {t : Trm} (h : Fine t) (p : Some' t) : Fine (nextT t) := by
 unfold nextT
 exact fine_index (fine_setX (fine_pend h _) 0 (Int.le_refl _) (Or.inr rfl)) p
theorem tabF_in (t : Trm) (d : Int) : ∀ f x, 0 ≤ x → (x < t.w ∨ x = 0) → 0 ≤ tabF t d f x ∧ (tabF t d f x < t.w ∨ tabF t d f x = 0)
 | 0, x, h, k => ⟨h, k⟩
 | f + 1, x, h, k => by
  unfold tabF
  by_cases c : x + d < 0 ∨ t.w ≤ x + d
  ·rw [if_pos c]; exact ⟨h, k⟩
  ·rw [if_neg c]
   split
   ·exact ⟨by omega, by omega⟩
   ·exact tabF_in t d f (x + d) (by omega) (by omega)
theorem fine_tab {t : Trm} (h : Fine t) (d : Int) : Fine (tabT t d) := by
 unfold tabT
 have := tabF_in t d (t.w.toNat + 1) t.cur.x h.x0 h.cx
 exact fine_setX h _ this.1 this.2
theorem fine_tabs {t : Trm} (h : Fine t) (d : Int) : ∀ n, Fine (tabsT t d n)
 | 0 => h
 | n + 1 => fine_tab (fine_tabs h d n) d
theorem fine_restore {t : Trm} (h : Fine t) : Fine (restoreT t) := by
 have a := h.w0
 have b := h.h0
 by_cases c : t.w * t.h = 0
 ·exact fine_cur h rfl (by show 0 ≤ (if t.w * t.h = 0 then (0 : Int) else _); rw [if_pos c]; exact Int.le_refl 0) (by show 0 ≤ (if t.w * t.h = 0 then (0 : Int) else _); rw [if_pos c]; exact Int.le_refl 0) (Or.inr (if_pos c)) (Or.inr (if_pos c))
 ·obtain ⟨p, q⟩ := h.some c
  have ex : (restoreT t).cur.x = max 0 (min t.sav.x (t.w - 1)) := if_neg c
  have ey : (restoreT t).cur.y = max 0 (min t.sav.y (t.h - 1)) := if_neg c
  exact fine_cur h rfl (by rw [ex]; omega) (by rw [ey]; omega) (Or.inl (by rw [ex]; omega)) (Or.inl (by rw [ey]; omega))
theorem fine_home {t : Trm} (h : Fine t) : Fine (homeT t) := by
 have p0 := h.p0
 have p1 := h.p1
 have p2 := h.p2
 unfold homeT
 refine fine_cur h rfl (Int.le_refl 0) ?_ (Or.inr rfl) ?_
 ·show 0 ≤ (if t.cur.org = true then t.top else 0); split <;> omega
 ·show (if t.cur.org = true then t.top else 0) < t.h ∨ (if t.cur.org = true then t.top else 0) = 0; split <;> omega
theorem fine_stand {t : Trm} (h : Fine t) (p : Some' t) (x : Int) (x0 : 0 ≤ x) : Fine (standT t x) := by
 have := p.1
 unfold standT
 split
 ·exact fine_pend (fine_setX h _ (by omega) (by omega)) _
 ·exact fine_setX h _ x0 (by omega)
theorem fine_control {t : Trm} (h : Fine t) (r : Int) : Fine (controlT t r) := by
 have x0 := h.x0
 have cx := h.cx
 have h0 : Fine { t with opn := -1 } := fine_opn h _
 unfold controlT
 simp only
 by_cases c : t.w * t.h = 0
 ·rw [if_pos c]; exact fine_opn h _
 ·rw [if_neg c]
  have p := h.some c
  repeat' split
  ·exact fine_pend (fine_setX h0 _ (by show 0 ≤ max 0 (t.cur.x - 1); omega) (by show max 0 (t.cur.x - 1) < t.w ∨ max 0 (t.cur.x - 1) = 0; omega)) _
  ·exact fine_pend (fine_tab h0 1) _
  ·exact fine_pend (fine_index h0 p) _
  ·exact fine_pend (fine_setX h0 0 (Int.le_refl 0) (Or.inr rfl)) _
  ·exact fine_opn h _
theorem width_nn (s : ByteArray) : 0 ≤ widthB s := by
 unfold widthB
 have q : ∀ c ∈ splitB s, 0 ≤ c.2 := fun c hc => by have := (splitB_mem s c hc).2; omega
 generalize splitB s = l at *
 induction l with
 | nil => exact Int.le_refl 0
 | cons a r ih =>
  have a1 := q a (by simp)
  have a2 := ih (fun x hx => q x (by simp [hx]))
  simp only [List.map_cons, List.sum_cons]
  omega
theorem fine_fresh {t : Trm} (h : Fine t) (p : Some' t) (s : ByteArray) : Fine (freshT t s) := by
 have n0 := width_nn s
 unfold freshT
 simp only
 have h0 : Fine { t with opn := -1 } := fine_opn h _
 have d0 : Dim t { t with opn := -1 } := ⟨rfl, rfl⟩
 split
 ·exact h0
 ·have h1 : Fine (if ({ t with opn := -1 } : Trm).pend = true then nextT { t with opn := -1 } else { t with opn := -1 }) ∧ Dim t (if ({ t with opn := -1 } : Trm).pend = true then nextT { t with opn := -1 } else { t with opn := -1 }) := by
   split
   ·exact ⟨fine_next h0 p, d0.trans (dim_next _)⟩
   ·exact ⟨h0, d0⟩
  generalize (if ({ t with opn := -1 } : Trm).pend = true then nextT { t with opn := -1 } else { t with opn := -1 }) = t1 at *
  obtain ⟨h1, d1⟩ := h1
  split
  ·exact h1
  ·have h2 : Fine (if t1.w < t1.cur.x + widthB s then nextT t1 else t1) ∧ Dim t (if t1.w < t1.cur.x + widthB s then nextT t1 else t1) := by
    split
    ·exact ⟨fine_next h1 (dim_some d1 p), d1.trans (dim_next _)⟩
    ·exact ⟨h1, d1⟩
   generalize (if t1.w < t1.cur.x + widthB s then nextT t1 else t1) = t2 at *
   obtain ⟨h2, d2⟩ := h2
   have h3 : Fine (if t2.ins = true then shiftT t2 (widthB s) else t2) ∧ Dim t (if t2.ins = true then shiftT t2 (widthB s) else t2) := by
    split
    ·exact ⟨h2.cw (cw_shift _ _ h2 (dim_some d2 p)), d2.trans (dim_shift _ _)⟩
    ·exact ⟨h2, d2⟩
   generalize (if t2.ins = true then shiftT t2 (widthB s) else t2) = t3 at *
   obtain ⟨h3, d3⟩ := h3
   have h4 := fine_opn h3 (t3.cur.y * t3.w + t3.cur.x)
   have c := cw_write { t3 with opn := t3.cur.y * t3.w + t3.cur.x } t3.cur.x t3.cur.y s (widthB s) t3.cur.st
   have x0 := h3.x0
   exact fine_stand (h4.cw c) (c.some (dim_some d3 p)) _ (by show 0 ≤ t3.cur.x + widthB s; omega)
theorem fine_print {t : Trm} (h : Fine t) (p : Some' t) (s : ByteArray) : Fine (printT t s) := by
 unfold printT
 split
 ·split
  ·simp only
   split
   ·exact h.cw (cw_write _ _ _ _ _ _)
   ·split
    ·have q : 0 ≤ t.opn % t.w := Int.emod_nonneg _ (by have := p.1; omega)
     exact fine_stand (h.cw (cw_write _ _ _ _ _ _)) ((cw_write _ _ _ _ _ _).some p) _ (by omega)
    ·exact h
  ·exact fine_fresh h p s
 ·exact fine_fresh h p s
theorem pos_some {t : Trm} (h : Fine t) (c : 0 < t.w * t.h) : Some' t := h.some (by omega)
theorem fine_rune {t : Trm} (h : Fine t) (r : Int) : Fine (runeT t r) := by
 unfold runeT
 split
 ·exact h.still rfl rfl rfl
 ·split
  ·exact fine_control h r
  ·split
   ·rename_i c; exact fine_print h (pos_some h c) _
   ·exact h
theorem fine_runes : ∀ (l : List Int) {t : Trm}, Fine t → Fine (runesT t l)
 | [], t, h => h
 | r :: l, t, h => fine_runes l (t := runeT t r) (fine_rune h r)
theorem fine_takeG {t : Trm} (h : Fine t) (b : Int) : Fine (takeG t b) := by
 unfold takeG
 exact fine_runes _ (h.still rfl rfl rfl)
theorem fine_reply {t : Trm} (h : Fine t) (s : ByteArray) : Fine (replyT t s) := by
 unfold replyT
 split
 ·exact h.still rfl rfl rfl
 ·exact h
theorem fine_report {t : Trm} (h : Fine t) (k : Int) : Fine (reportT t k) := by
 unfold reportT
 split
 ·exact fine_reply h _
 ·split
  ·exact fine_reply h _
  ·exact h
theorem fine_swap {t : Trm} (h : Fine t) (u : Trm) (e : u = { t with cells := t.away, away := t.cells, wrt := List.replicate t.wrt.length true, pend := u.pend, alt := u.alt, sav := u.sav }) : Fine u := by
 rw [e]
 exact ⟨h.w0, h.w1, h.h0, h.h1, h.ar, h.al, h.cl, by show ((List.replicate t.wrt.length true).length : Int) = _; rw [List.length_replicate]; exact h.wl, h.sl, h.x0, h.y0, h.cx, h.cy, h.p0, h.p1, h.p2⟩
theorem fine_mode {t : Trm} (h : Fine t) (k : Int) (on : Bool) : Fine (modeT t k on) := by
 unfold modeT
 simp only
 split
 ·exact fine_pend (fine_home (t := { t with cur := { t.cur with org := on } }) (h.still rfl rfl rfl)) _
 ·split
  ·exact h.still rfl rfl rfl
  ·split
   ·exact h.still rfl rfl rfl
   ·split
    ·split
     ·exact h.still rfl rfl rfl
     ·split
      ·exact (fine_swap h _ rfl).cw (cw_fill _ _ _)
      ·exact fine_restore (fine_swap h _ rfl)
    ·exact h
theorem fine_modes (on : Bool) : ∀ (l : List Int) {t : Trm}, Fine t → Fine (modesT t on l)
 | [], t, h => h
 | k :: l, t, h => fine_modes on l (fine_mode h k on)
theorem fine_up {t : Trm} (h : Fine t) (p : Some' t) (k : Int) (k1 : 0 ≤ k) : Fine (upT t k) := by
 have := h.y0
 have := h.cy
 have := h.p0
 have := p.2
 unfold upT
 refine fine_setY h _ ?_ ?_ <;> split <;> omega
theorem fine_down {t : Trm} (h : Fine t) (p : Some' t) (k : Int) (k1 : 0 ≤ k) : Fine (downT t k) := by
 have := h.y0
 have := h.cy
 have := h.p2
 have := p.2
 unfold downT
 refine fine_setY h _ ?_ ?_ <;> split <;> omega
theorem fine_row {t : Trm} (h : Fine t) (p : Some' t) (k : Int) (k1 : 1 ≤ k) : Fine (rowT t k) := by
 have := h.p0
 have := h.p1
 have := h.p2
 have := p.2
 unfold rowT
 refine fine_setY h _ ?_ ?_ <;> split <;> omega
theorem fine_column {t : Trm} (h : Fine t) (p : Some' t) (k : Int) (k1 : 1 ≤ k) : Fine (columnT t k) := by
 have := p.1
 unfold columnT
 exact fine_setX h _ (by omega) (by omega)
theorem fine_lines {t : Trm} (h : Fine t) (n : Int) : Fine (linesT t n) := by
 unfold linesT
 split
 ·exact fine_setX (h.cw (cw_scroll _ _ _ _)) 0 (Int.le_refl 0) (Or.inr rfl)
 ·exact h
theorem count_one (n : Nums) (i : Nat) : 1 ≤ n.count i := by unfold Nums.count; split <;> omega
theorem fine_margins {t : Trm} (h : Fine t) (p : Some' t) (n : Nums) : Fine (marginsT t n) := by
 have c1 := count_one n 0
 unfold marginsT
 simp only
 have b1 : (if 1 < n.list.length ∧ 0 < n.list.getD 1 0 then min (n.list.getD 1 0) t.h else t.h) ≤ t.h := by split <;> omega
 generalize (if 1 < n.list.length ∧ 0 < n.list.getD 1 0 then min (n.list.getD 1 0) t.h else t.h) = b at *
 split
 ·exact fine_home ⟨h.w0, h.w1, h.h0, h.h1, h.ar, h.cl, h.al, h.wl, h.sl, h.x0, h.y0, h.cx, h.cy, by show 0 ≤ n.count 0 - 1; omega, Or.inl (by show n.count 0 - 1 ≤ b - 1; omega), by show b - 1 < t.h; omega⟩
 ·exact h
theorem fine_eraseLine {t : Trm} (h : Fine t) (k : Int) : Fine (eraseLineT t k) := by
 unfold eraseLineT
 repeat' split
 all_goals first
 | exact h.cw (cw_erase _ _ _)
 | exact h
theorem fine_eraseScreen {t : Trm} (h : Fine t) (k : Int) : Fine (eraseScreenT t k) := by
 unfold eraseScreenT
 repeat' split
 all_goals first
 | exact h.cw (cw_erase _ _ _)
 | exact h
theorem fine_act? {t : Trm} (h : Fine t) (p : Some' t) (b : Int) (n : Nums) : ∀ t', actT? t b n = some t' → Fine t' := by
 have k := count_one n 0
 have k2 := count_one n 1
 have x0 := h.x0
 have cx := h.cx
 have w0 := p.1
 have up := fine_up h p (n.count 0) (by omega)
 have dn := fine_down h p (n.count 0) (by omega)
 unfold actT?
 simp only
 repeat (refine ite_opt (P := Fine) (by first | exact up | exact dn | exact fine_setX h _ (by omega) (by omega) | exact fine_setX up 0 (Int.le_refl 0) (Or.inr rfl) | exact fine_setX dn 0 (Int.le_refl 0) (Or.inr rfl) | exact fine_column h p _ k | exact fine_column (fine_row h p _ k) p _ k2 | exact fine_tabs h _ _ | exact fine_eraseScreen h _ | exact fine_eraseLine h _ | exact fine_lines h _ | exact h.cw (cw_shift _ _ h p) | exact h.cw (cw_scroll _ _ _ _) | exact h.cw (cw_erase _ _ _) | exact fine_row h p _ k | exact fine_margins h p n | exact fine_restore h) ?_)
 intro t' h
 cases h
theorem fine_stops {t : Trm} (h : Fine t) (l : List Bool) (e : l.length = t.stops.length) : Fine { t with stops := l } :=
 ⟨h.w0, h.w1, h.h0, h.h1, h.ar, h.cl, h.al, h.wl, by show (l.length : Int) = _; rw [e]; exact h.sl, h.x0, h.y0, h.cx, h.cy, h.p0, h.p1, h.p2⟩
theorem fine_act {t : Trm} (h : Fine t) (p : Some' t) (b : Int) (n : Nums) : Fine (actT t b n) := by
 unfold actT
 split
 ·split
  ·exact fine_stops h _ List.length_set
  ·split
   ·exact fine_stops h _ List.length_replicate
   ·exact h
 ·split
  ·exact h.still rfl rfl rfl
  ·cases e : actT? t b n with
   | none => exact h
   | some t' => exact fine_pend (fine_act? h p b n t' e) _
theorem fine_sequence {t : Trm} (h : Fine t) (b : Int) : Fine (sequenceT t b) := by
 have h0 := fine_opn h (-1)
 unfold sequenceT
 simp only
 repeat' split
 all_goals first
 | exact h0
 | exact fine_modes _ _ h0
 | exact h.still rfl rfl rfl
 | exact fine_report h0 _
 | exact fine_reply h0 _
 | (rename_i c; exact fine_act h0 (pos_some h0 c) _ _)
theorem fine_titled {t : Trm} (h : Fine t) : Fine (titledT t) := by
 unfold titledT
 simp only
 split
 ·exact h.still rfl rfl rfl
 ·exact h
theorem fine_within {t : Trm} (h : Fine t) (b : Int) : Fine (withinT t b) := by
 unfold withinT
 repeat' split
 all_goals first
 | exact h
 | exact h.still rfl rfl rfl
 | exact (fine_titled h).still rfl rfl rfl
theorem stops_len (w : Int) (h : 0 ≤ w) : ((stopsV w).length : Int) = w := by unfold stopsV; rw [List.length_map, List.length_range]; omega
theorem fine_new (w h : Int) (w0 : 0 ≤ w) (w1 : w ≤ 4096) (h0 : 0 ≤ h) (h1 : h ≤ 4096) (ar : w * h ≤ 1048576) : Fine (newV w h) := by
 have p := Int.mul_nonneg w0 h0
 have l : ∀ {α : Type} (x : α), ((List.replicate (w * h).toNat x).length : Int) = w * h := fun x => by rw [List.length_replicate]; omega
 exact ⟨w0, w1, h0, h1, ar, l _, l _, l _, stops_len w w0, Int.le_refl 0, Int.le_refl 0, Or.inr rfl, Or.inr rfl, Int.le_refl 0, by show 0 ≤ h - 1 ∨ h = 0 ∧ (0 : Int) = 0; omega, by show h - 1 < h; omega⟩
theorem fine_allW {t : Trm} (h : Fine t) : Fine (allW t) := h.cw ⟨rfl, rfl, List.length_replicate⟩
theorem fine_escaped {t : Trm} (h : Fine t) (b : Int) : Fine (escapedT t b) := by
 have key : ∀ u : Trm, Fine u → Fine (if u.w * u.h = 0 then u else if b = 69 then { (indexT (setX u 0)) with pend := false } else if b = 68 then { (indexT u) with pend := false } else if b = 77 then { (reverseT u) with pend := false } else if b = 72 then { u with stops := u.stops.set u.cur.x.toNat true } else u) := by
  intro u hu
  by_cases c : u.w * u.h = 0
  ·rw [if_pos c]; exact hu
  ·rw [if_neg c]
   have p := hu.some c
   repeat' split
   ·exact fine_pend (fine_index (fine_setX hu 0 (Int.le_refl 0) (Or.inr rfl)) p) _
   ·exact fine_pend (fine_index hu p) _
   ·exact fine_pend (fine_reverse hu p) _
   ·exact fine_stops hu _ List.length_set
   ·exact hu
 unfold escapedT
 simp only
 refine key _ ?_
 repeat' split
 all_goals first
 | exact h.still rfl rfl rfl
 | exact (fine_allW (fine_new t.w t.h h.w0 h.w1 h.h0 h.h1 h.ar)).still rfl rfl rfl
 | exact fine_restore (h.still rfl rfl rfl)
theorem fine_takeE {t : Trm} (h : Fine t) (b : Int) : Fine (takeE t b) := by
 unfold takeE
 repeat' split
 ·exact h.still rfl rfl rfl
 ·exact fine_control h b
 ·exact h
 ·exact fine_takeG (t := { t with state := 0 }) (h.still rfl rfl rfl) b
 ·exact h.still rfl rfl rfl
 ·exact fine_sequence (t := { t with state := 0 }) (h.still rfl rfl rfl) b
 ·exact h.still rfl rfl rfl
 ·exact h.still rfl rfl rfl
 ·exact fine_escaped h b
theorem fine_take {t : Trm} (h : Fine t) (b : Int) : Fine (takeT t b) := by
 unfold takeT
 repeat' split
 ·exact fine_takeG h b
 ·exact h.still rfl rfl rfl
 ·exact fine_takeE (t := { t with state := 1 }) (h.still rfl rfl rfl) b
 ·exact (fine_titled h).still rfl rfl rfl
 ·exact h.still rfl rfl rfl
 ·exact fine_within h b
 ·exact fine_takeE h b
end Go.Proofs.YtmaofighbpnbiaaGreatDoor
/- What every terminal keeps: the open cell lies within (plain). -/
namespace Go.Proofs.YtmaofighbpnbiaaGreatDoor
open Go.RowKit
set_option linter.unusedVariables false
set_option linter.unusedSimpArgs false
theorem oneB_fits {s : ByteArray} {n : Int} (h : oneB s = some n) : s.size ≤ 64 ∧ (n = 0 ∨ n = 1 ∨ n = 2) := by
 unfold oneB at h
 have m := splitB_mem s
 split at h
 ·rename_i c e
  rw [e] at m
  have := m c (by simp)
  split at h
  ·rename_i e2
   cases h
   rw [e2] at this
   exact this
  ·cases h
 ·cases h
structure OpnAt (t : Trm) : Prop where
 lo : 0 ≤ t.opn
 hi : t.opn < t.w * t.h
 wide : (t.cell t.opn.toNat).wide = 0 ∨ (t.cell t.opn.toNat).wide = 1 ∨ (t.cell t.opn.toNat).wide = 2
 fits : t.opn % t.w + (t.cell t.opn.toNat).wide ≤ t.w
 text : (t.cell t.opn.toNat).text.size ≤ 64
def OpnOk (t : Trm) : Prop := t.opn = -1 ∨ OpnAt t
def RestOk (t : Trm) : Prop := t.state ≠ 0 → t.opn = -1
structure Ho (t t' : Trm) : Prop where
 held : t'.held = t.held
 reps : t.reps.size ≤ 65536 → t'.reps.size ≤ 65536
 opn : t'.opn = t.opn ∨ t'.opn = -1
theorem Ho.refl (t : Trm) : Ho t t := ⟨rfl, id, Or.inl rfl⟩
theorem Ho.trans {a b c : Trm} (h : Ho a b) (k : Ho b c) : Ho a c := by
 refine ⟨k.1.trans h.1, fun x => k.2 (h.2 x), ?_⟩
 rcases k.3 with e | e
 ·rcases h.3 with f | f
  ·exact Or.inl (e.trans f)
  ·exact Or.inr (e.trans f)
 ·exact Or.inr e
theorem Cw.ho {t t' : Trm} (h : Cw t t') : Ho t t' := ⟨h.held, fun x => by rw [h.reps]; exact x, Or.inl h.opn⟩
theorem ho_of {t t' : Trm} (e1 : t'.held = t.held) (e2 : t'.reps = t.reps) (e3 : t'.opn = t.opn ∨ t'.opn = -1) : Ho t t' := ⟨e1, fun x => by rw [e2]; exact x, e3⟩
theorem ho_index (t : Trm) : Ho t (indexT t) := by
 unfold indexT
 split
 ·exact (cw_scroll _ _ _ _).ho
 ·exact ho_of rfl rfl (Or.inl rfl)
theorem ho_reverse (t : Trm) : Ho t (reverseT t) := by
 unfold reverseT
 split
 ·exact (cw_scroll _ _ _ _).ho
 ·exact ho_of rfl rfl (Or.inl rfl)
theorem ho_next (t : Trm) : Ho t (nextT t) := Ho.trans (b := setX { t with pend := false } 0) (ho_of rfl rfl (Or.inl rfl)) (ho_index _)
theorem ho_shift {t : Trm} (h : Fine t) (p : Some' t) (n : Int) : Ho t (shiftT t n) := (cw_shift t n h p).ho
theorem ho_stand (t : Trm) (x : Int) : Ho t (standT t x) := by unfold standT; split <;> exact ho_of rfl rfl (Or.inl rfl)
theorem ho_control (t : Trm) (r : Int) : Ho t (controlT t r) := by
 have h0 : Ho t { t with opn := -1 } := ho_of rfl rfl (Or.inr rfl)
 unfold controlT
 simp only
 repeat' split
 all_goals first
 | exact h0
 | exact ho_of rfl rfl (Or.inr rfl)
 | exact (h0.trans (ho_index _)).trans (ho_of rfl rfl (Or.inl rfl))
theorem control_opn (t : Trm) (r : Int) : (controlT t r).opn = -1 := by
 have q := ho_index { t with opn := -1 }
 unfold controlT
 simp only
 repeat' split
 all_goals first
 | rfl
 | (show (indexT { t with opn := -1 }).opn = -1; exact q.opn.elim id id)
theorem ho_reply (t : Trm) (s : ByteArray) : Ho t (replyT t s) := by
 unfold replyT
 split
 ·rename_i c
  refine ⟨rfl, fun _ => ?_, Or.inl rfl⟩
  show (t.reps ++ ((⟨#[27, 91]⟩ : ByteArray) ++ s)).size ≤ 65536
  rw [ByteArray.size_append, ByteArray.size_append]
  have : (⟨#[27, 91]⟩ : ByteArray).size = 2 := rfl
  omega
 ·exact Ho.refl t
theorem ho_report (t : Trm) (k : Int) : Ho t (reportT t k) := by
 unfold reportT
 split
 ·exact ho_reply _ _
 ·split
  ·exact ho_reply _ _
  ·exact Ho.refl t
theorem ho_mode (t : Trm) (k : Int) (on : Bool) : Ho t (modeT t k on) := by
 unfold modeT
 simp only
 repeat' split
 all_goals first
 | exact ho_of rfl rfl (Or.inl rfl)
 | exact (Ho.trans (b := { (allW { t with pend := false, alt := on, cells := t.away, away := t.cells }) with sav := t.cur }) (ho_of rfl rfl (Or.inl rfl)) (cw_fill _ _ _).ho)
theorem ho_modes (on : Bool) : ∀ (l : List Int) (t : Trm), Ho t (modesT t on l)
 | [], t => Ho.refl t
 | k :: l, t => (ho_mode t k on).trans (ho_modes on l _)
theorem ho_tabs (t : Trm) (d : Int) : ∀ n, Ho t (tabsT t d n)
 | 0 => Ho.refl t
 | n + 1 => (ho_tabs t d n).trans (ho_of rfl rfl (Or.inl rfl))
theorem ho_lines (t : Trm) (n : Int) : Ho t (linesT t n) := by
 unfold linesT
 split
 ·exact (cw_scroll _ _ _ _).ho.trans (ho_of rfl rfl (Or.inl rfl))
 ·exact Ho.refl t
theorem ho_eraseLine (t : Trm) (k : Int) : Ho t (eraseLineT t k) := by
 unfold eraseLineT
 repeat' split
 all_goals first
 | exact (cw_erase _ _ _).ho
 | exact Ho.refl t
theorem ho_eraseScreen (t : Trm) (k : Int) : Ho t (eraseScreenT t k) := by
 unfold eraseScreenT
 repeat' split
 all_goals first
 | exact (cw_erase _ _ _).ho
 | exact Ho.refl t
theorem ho_margins (t : Trm) (n : Nums) : Ho t (marginsT t n) := by
 unfold marginsT
 simp only
 repeat' split
 all_goals exact ho_of rfl rfl (Or.inl rfl)
theorem ho_act? {t : Trm} (h : Fine t) (p : Some' t) (b : Int) (n : Nums) : ∀ t', actT? t b n = some t' → Ho t t' := by
 unfold actT?
 simp only
 repeat (refine ite_opt (P := Ho t) (by first | exact ho_of rfl rfl (Or.inl rfl) | exact ho_tabs _ _ _ | exact ho_eraseScreen _ _ | exact ho_eraseLine _ _ | exact ho_lines _ _ | exact ho_shift h p _ | exact (cw_scroll _ _ _ _).ho | exact (cw_erase _ _ _).ho | exact ho_margins _ _) ?_)
 intro t' h
 cases h
theorem ho_act {t : Trm} (h : Fine t) (p : Some' t) (b : Int) (n : Nums) : Ho t (actT t b n) := by
 unfold actT
 split
 ·repeat' split
  all_goals exact ho_of rfl rfl (Or.inl rfl)
 ·split
  ·exact ho_of rfl rfl (Or.inl rfl)
  ·cases e : actT? t b n with
   | none => exact Ho.refl t
   | some t' => exact (ho_act? h p b n t' e).trans (ho_of rfl rfl (Or.inl rfl))
theorem ho_sequence {t : Trm} (h : Fine t) (b : Int) : Ho { t with opn := -1 } (sequenceT t b) := by
 have h0 := fine_opn h (-1)
 unfold sequenceT
 simp only
 repeat' split
 all_goals first
 | exact Ho.refl _
 | exact ho_modes _ _ _
 | exact ho_of rfl rfl (Or.inl rfl)
 | exact ho_report _ _
 | exact ho_reply _ _
 | (rename_i c; exact ho_act h0 (pos_some h0 c) _ _)
theorem Ho.off {t t' : Trm} (h : Ho t t') (e : t.opn = -1) : t'.opn = -1 := by
 rcases h.opn with f | f
 ·exact f.trans e
 ·exact f
theorem cell_set (t : Trm) (i : Nat) (c : Cel) (h : i < t.cells.length) : (putT t i c).cell i = c := by
 unfold putT Trm.cell
 simp only
 rw [List.getD_eq_getElem?_getD, List.getElem?_set_self h]
 rfl
theorem cell_other (t : Trm) (i j : Nat) (c : Cel) (h : j ≠ i) : (putT t j c).cell i = t.cell i := by
 unfold putT Trm.cell
 simp only
 rw [List.getD_eq_getElem?_getD, List.getElem?_set_ne h, ← List.getD_eq_getElem?_getD]
theorem write_cell (t : Trm) (x y : Int) (s : ByteArray) (n : Int) (st : Sty) (h : (y * t.w + x).toNat < t.cells.length) : (writeT t x y s n st).cell (y * t.w + x).toNat = ⟨s, n, st⟩ := by
 have c := (cw_split t x y).trans (cw_split (splitT t x y) (x + n) y)
 have hl := c.cl
 unfold writeT
 simp only
 generalize splitT (splitT t x y) (x + n) y = u at *
 split
 ·rw [cell_other _ _ _ _ (by omega), cell_set _ _ _ (by omega)]
 ·rw [cell_set _ _ _ (by omega)]
theorem at_row {w x : Int} (y : Int) (x0 : 0 ≤ x) (x1 : x < w) : (y * w + x) % w = x := by
 rw [Int.add_comm, Int.add_mul_emod_self_right]
 exact Int.emod_eq_of_lt x0 x1
theorem stand_same (t : Trm) (x : Int) : (standT t x).w = t.w ∧ (standT t x).h = t.h ∧ (standT t x).opn = t.opn ∧ (standT t x).cells = t.cells := by
 unfold standT
 split <;> exact ⟨rfl, rfl, rfl, rfl⟩
theorem OpnAt.same {t t' : Trm} (h : OpnAt t) (e : t'.w = t.w ∧ t'.h = t.h ∧ t'.opn = t.opn ∧ t'.cells = t.cells) : OpnAt t' := by
 obtain ⟨e1, e2, e3, e4⟩ := e
 have ec : ∀ i, t'.cell i = t.cell i := fun i => by unfold Trm.cell; rw [e4]
 exact ⟨by rw [e3]; exact h.lo, by rw [e3, e1, e2]; exact h.hi, by rw [e3, ec]; exact h.wide, by rw [e3, ec, e1]; exact h.fits, by rw [e3, ec]; exact h.text⟩
theorem opn_write {t : Trm} (h : Fine t) {x y : Int} (x0 : 0 ≤ x) (y0 : 0 ≤ y) (y1 : y < t.h) (s : ByteArray) (n : Int) (st : Sty) (n2 : n = 0 ∨ n = 1 ∨ n = 2) (x1 : x < t.w) (xn : x + n ≤ t.w) (hs : s.size ≤ 64) (ho : t.opn = y * t.w + x) : OpnAt (writeT t x y s n st) := by
 have c := cw_write t x y s n st
 have r := h.row y0 y1
 have cl := h.cl
 have wc := write_cell t x y s n st (by omega)
 have eo : (writeT t x y s n st).opn = y * t.w + x := c.opn.trans ho
 refine ⟨by rw [eo]; omega, by rw [eo, c.w, c.h]; omega, by rw [eo, wc]; exact n2, ?_, by rw [eo, wc]; exact hs⟩
 rw [eo, wc, c.w, at_row y x0 x1]
 exact xn
theorem opn_place {t : Trm} (h : Fine t) (p : Some' t) (o : OpnAt t) : 0 ≤ t.opn % t.w ∧ t.opn % t.w < t.w ∧ 0 ≤ t.opn / t.w ∧ t.opn / t.w < t.h ∧ t.opn = t.opn / t.w * t.w + t.opn % t.w := by
 have a := p.1
 have lo := o.lo
 have hi := o.hi
 refine ⟨Int.emod_nonneg _ (by omega), Int.emod_lt_of_pos _ a, Int.ediv_nonneg lo (by omega), ?_, ?_⟩
 ·exact Int.ediv_lt_of_lt_mul a (by rw [Int.mul_comm]; exact hi)
 ·have := Int.mul_ediv_add_emod t.opn t.w
  rw [Int.mul_comm] at this
  omega
theorem opn_fresh {t : Trm} (h : Fine t) (p : Some' t) (s : ByteArray) (hs : s.size ≤ 64) (n2 : widthB s = 0 ∨ widthB s = 1 ∨ widthB s = 2) : OpnOk (freshT t s) ∧ Ho { t with opn := -1 } { freshT t s with opn := -1 } := by
 unfold freshT
 simp only
 have h0 : Fine { t with opn := -1 } := fine_opn h _
 have d0 : Dim t { t with opn := -1 } := ⟨rfl, rfl⟩
 split
 ·exact ⟨Or.inl rfl, Ho.refl _⟩
 ·rename_i nw
  have h1 : Fine (if ({ t with opn := -1 } : Trm).pend = true then nextT { t with opn := -1 } else { t with opn := -1 }) ∧ Dim t (if ({ t with opn := -1 } : Trm).pend = true then nextT { t with opn := -1 } else { t with opn := -1 }) ∧ Ho { t with opn := -1 } (if ({ t with opn := -1 } : Trm).pend = true then nextT { t with opn := -1 } else { t with opn := -1 }) := by
   split
   ·exact ⟨fine_next h0 p, d0.trans (dim_next _), ho_next _⟩
   ·exact ⟨h0, d0, Ho.refl _⟩
  generalize (if ({ t with opn := -1 } : Trm).pend = true then nextT { t with opn := -1 } else { t with opn := -1 }) = t1 at *
  obtain ⟨h1, d1, o1⟩ := h1
  split
  ·exact ⟨Or.inl (o1.off rfl), o1.trans (ho_of rfl rfl (Or.inr rfl))⟩
  ·have h2 : Fine (if t1.w < t1.cur.x + widthB s then nextT t1 else t1) ∧ Dim t (if t1.w < t1.cur.x + widthB s then nextT t1 else t1) ∧ Ho { t with opn := -1 } (if t1.w < t1.cur.x + widthB s then nextT t1 else t1) ∧ (if t1.w < t1.cur.x + widthB s then nextT t1 else t1).cur.x + widthB s ≤ (if t1.w < t1.cur.x + widthB s then nextT t1 else t1).w := by
    split
    ·have dn := dim_next t1
     refine ⟨fine_next h1 (dim_some d1 p), d1.trans dn, o1.trans (ho_next _), ?_⟩
     have ex : (nextT t1).cur.x = 0 := by
      unfold nextT indexT
      split
      ·rw [(cw_scroll _ _ _ _).cur]; rfl
      ·rfl
     rw [ex, (d1.trans dn).1]
     omega
    ·exact ⟨h1, d1, o1, by omega⟩
   generalize (if t1.w < t1.cur.x + widthB s then nextT t1 else t1) = t2 at *
   obtain ⟨h2, d2, o2, f2⟩ := h2
   have h3 : Fine (if t2.ins = true then shiftT t2 (widthB s) else t2) ∧ Dim t (if t2.ins = true then shiftT t2 (widthB s) else t2) ∧ Ho { t with opn := -1 } (if t2.ins = true then shiftT t2 (widthB s) else t2) ∧ (if t2.ins = true then shiftT t2 (widthB s) else t2).cur.x + widthB s ≤ (if t2.ins = true then shiftT t2 (widthB s) else t2).w := by
    split
    ·have c := cw_shift t2 (widthB s) h2 (dim_some d2 p)
     exact ⟨h2.cw c, d2.trans (dim_shift _ _), o2.trans c.ho, by rw [c.cur, c.w]; exact f2⟩
    ·exact ⟨h2, d2, o2, f2⟩
   generalize (if t2.ins = true then shiftT t2 (widthB s) else t2) = t3 at *
   obtain ⟨h3, d3, o3, f3⟩ := h3
   have p3 := dim_some d3 p
   have h4 := fine_opn h3 (t3.cur.y * t3.w + t3.cur.x)
   have c := cw_write { t3 with opn := t3.cur.y * t3.w + t3.cur.x } t3.cur.x t3.cur.y s (widthB s) t3.cur.st
   have x0 := h3.x0
   have := p3.1
   have := p3.2
   have cx := h3.cx
   have cy := h3.cy
   refine ⟨Or.inr ((opn_write h4 (x := t3.cur.x) (y := t3.cur.y) x0 h3.y0 (by show t3.cur.y < t3.h; omega) s (widthB s) t3.cur.st n2 (by show t3.cur.x < t3.w; omega) f3 hs rfl).same (stand_same _ _)), ?_⟩
   have s0 := ho_stand (writeT { t3 with opn := t3.cur.y * t3.w + t3.cur.x } t3.cur.x t3.cur.y s (widthB s) t3.cur.st) (t3.cur.x + widthB s)
   exact ⟨(s0.held.trans c.held).trans o3.held, fun x => s0.reps (c.ho.reps (o3.reps x)), Or.inr rfl⟩
theorem opn_print {t : Trm} (h : Fine t) (p : Some' t) (o : OpnOk t) (s : ByteArray) (hs : s.size ≤ 64) (n2 : widthB s = 0 ∨ widthB s = 1 ∨ widthB s = 2) : OpnOk (printT t s) ∧ Ho { t with opn := -1 } { printT t s with opn := -1 } := by
  have fr := opn_fresh h p s hs n2
  unfold printT
  split
  · rename_i c
    have oa : OpnAt t := by rcases o with e | e; · omega
                            · exact e
    obtain ⟨x0, x1, y0, y1, e⟩ := opn_place h p oa
    split
    · rename_i n eo
      obtain ⟨q1, q2⟩ := oneB_fits eo
      simp only
      split
      · rename_i en
        have cw := cw_write t (t.opn % t.w) (t.opn / t.w) ((t.cell t.opn.toNat).text ++ s) n (t.cell t.opn.toNat).st
        exact ⟨Or.inr (opn_write h x0 y0 y1 _ _ _ q2 x1 (by rw [en]; exact oa.fits) q1 e), ⟨cw.held, cw.ho.reps, Or.inr rfl⟩⟩
      · split
        · have cw := cw_write t (t.opn % t.w) (t.opn / t.w) ((t.cell t.opn.toNat).text ++ s) n (t.cell t.opn.toNat).st
          have s0 := ho_stand (writeT t (t.opn % t.w) (t.opn / t.w) ((t.cell t.opn.toNat).text ++ s) n (t.cell t.opn.toNat).st) (t.opn % t.w + 2)
          exact ⟨Or.inr ((opn_write h x0 y0 y1 _ _ _ q2 x1 (by omega) q1 e).same (stand_same _ _)), ⟨s0.held.trans cw.held, fun x => s0.reps (cw.ho.reps x), Or.inr rfl⟩⟩
        · exact ⟨o, Ho.refl _⟩
    · exact fr
  · exact fr
end Go.Proofs.YtmaofighbpnbiaaGreatDoor
/- The bytes of a character are read back (plain). -/
namespace Go.Proofs.YtmaofighbpnbiaaGreatDoor
open Go.RowKit
set_option linter.unusedVariables false
set_option linter.unusedSimpArgs false
theorem barr_size (l : List Int) : (barr l).size = l.length := by unfold barr; simp [ByteArray.size]
theorem byt_barr (l : List Int) (i : Nat) (h : i < l.length) (hr : ∀ b ∈ l, 0 ≤ b ∧ b < 256) : byt (barr l) i = (l.getD i 0).toNat := by
 have h2 : i < (barr l).size := by rw [barr_size]; exact h
 have m : l.getD i 0 ∈ l := by rw [List.getD_eq_getElem?_getD, List.getElem?_eq_getElem h]; exact List.getElem_mem h
 have r := hr _ m
 have e : (barr l)[i] = UInt8.ofNat (l.getD i 0).toNat := by
  show ((l.map fun n => UInt8.ofNat n.toNat).toArray)[i]'(by simpa using h) = _
  rw [List.getElem_toArray, List.getElem_map, List.getD_eq_getElem?_getD, List.getElem?_eq_getElem h]
  rfl
 unfold byt
 rw [get_at _ _ h2, e, UInt8.toNat_ofNat']
 omega
theorem barr_drop (a b : List Int) : (barr (a ++ b)).extract a.length (barr (a ++ b)).size = barr b := by
 apply ByteArray.ext
 rw [barr_size]
 unfold barr
 rw [ByteArray.data_extract]
 refine Array.ext (by simp) (fun i h1 h2 => ?_)
 simp
theorem dec_char (r : Int) (rest : List Int) (hr : ∀ b ∈ rest, 0 ≤ b ∧ b < 256) : decB (barr (bytesI r ++ rest)) = ((charI r).toNat, (bytesI r).length) := by
 have rng : ∀ b ∈ bytesI r ++ rest, 0 ≤ b ∧ b < 256 := fun b hb => by
  rcases List.mem_append.1 hb with m | m
  ·exact bytesI_rng r b m
  ·exact hr b m
 have by_ := fun i (h : i < (bytesI r).length) => byt_barr (bytesI r ++ rest) i (by rw [List.length_append]; omega) rng
 have sz := barr_size (bytesI r ++ rest)
 rw [List.length_append] at sz
 have cr := charI_rng r
 have ns : charI r < 55296 ∨ 57343 < charI r := by unfold charI; split <;> omega
 unfold bytesI at by_ sz ⊢
 generalize charI r = c at *
 by_cases c1 : c < 128
 ·rw [if_pos c1] at by_ sz ⊢
  have b0 := by_ 0 (by simp)
  simp at b0
  unfold decB
  simp only [List.singleton_append] at b0 ⊢
  rw [b0]
  have l : leadN c.toNat = (1, 0, 0) := by unfold leadN; rw [if_pos (by omega)]
  rw [l]
  simp
 rw [if_neg c1] at by_ sz ⊢
 by_cases c2 : c < 2048
 ·rw [if_pos c2] at by_ sz ⊢
  have b0 := by_ 0 (by simp)
  have b1 := by_ 1 (by simp)
  simp at b0 b1
  simp only [List.cons_append, List.nil_append, List.length_cons, List.length_nil] at b0 b1 sz ⊢
  generalize barr ((192 + c / 64) :: (128 + c % 64) :: rest) = B at *
  have l : leadN (byt B 0) = (2, 128, 191) := by rw [b0]; unfold leadN; rw [if_neg (by omega), if_neg (by omega), if_pos (by omega)]
  unfold decB
  rw [l]
  simp only
  rw [if_neg (by omega), if_neg (by omega), goN_good _ _ _ _ _ _ _ (by omega) (by omega)]
  unfold goN
  rw [b0, b1]
  simp
  omega
 rw [if_neg c2] at by_ sz ⊢
 by_cases c3 : c < 65536
 ·rw [if_pos c3] at by_ sz ⊢
  have b0 := by_ 0 (by simp)
  have b1 := by_ 1 (by simp)
  have b2 := by_ 2 (by simp)
  simp at b0 b1 b2
  simp only [List.cons_append, List.nil_append, List.length_cons, List.length_nil] at b0 b1 b2 sz ⊢
  generalize barr ((224 + c / 4096) :: (128 + c / 64 % 64) :: (128 + c % 64) :: rest) = B at *
  have key : ∀ lo hi, leadN (byt B 0) = (3, lo, hi) → ¬ (byt B 1 < lo ∨ hi < byt B 1) → decB B = (c.toNat, 0 + 1 + 1 + 1) := by
   intro lo hi l ok
   unfold decB
   rw [l]
   simp only
   rw [if_neg (by omega), if_neg (by omega), goN_good _ _ _ _ _ _ _ (by omega) ok, goN_good _ _ _ _ _ _ _ (by omega) (show ¬ (byt B 2 < 128 ∨ 191 < byt B 2) by omega)]
   unfold goN
   rw [b0, b1, b2]
   simp
   omega
  by_cases z : byt B 0 = 224
  ·exact key 160 191 (by rw [z]; rfl) (by omega)
  ·by_cases z2 : byt B 0 = 237
   ·exact key 128 159 (by rw [z2]; rfl) (by omega)
   ·exact key 128 191 (by unfold leadN; rw [if_neg (by omega), if_neg (by omega), if_neg (by omega), if_neg z, if_neg z2, if_pos (by omega)]) (by omega)
 ·rw [if_neg c3] at by_ sz ⊢
  have b0 := by_ 0 (by simp)
  have b1 := by_ 1 (by simp)
  have b2 := by_ 2 (by simp)
  have b3 := by_ 3 (by simp)
  simp at b0 b1 b2 b3
  simp only [List.cons_append, List.nil_append, List.length_cons, List.length_nil] at b0 b1 b2 b3 sz ⊢
  generalize barr ((240 + c / 262144) :: (128 + c / 4096 % 64) :: (128 + c / 64 % 64) :: (128 + c % 64) :: rest) = B at *
  have key : ∀ lo hi, leadN (byt B 0) = (4, lo, hi) → ¬ (byt B 1 < lo ∨ hi < byt B 1) → decB B = (c.toNat, 0 + 1 + 1 + 1 + 1) := by
   intro lo hi l ok
   unfold decB
   rw [l]
   simp only
   rw [if_neg (by omega), if_neg (by omega), goN_good _ _ _ _ _ _ _ (by omega) ok, goN_good _ _ _ _ _ _ _ (by omega) (show ¬ (byt B 2 < 128 ∨ 191 < byt B 2) by omega), goN_good _ _ _ _ _ _ _ (by omega) (show ¬ (byt B 3 < 128 ∨ 191 < byt B 3) by omega)]
   unfold goN
   rw [b0, b1, b2, b3]
   simp
   omega
  by_cases z : byt B 0 = 240
  ·exact key 144 191 (by rw [z]; rfl) (by omega)
  ·by_cases z2 : byt B 0 = 244
   ·exact key 128 143 (by rw [z2]; rfl) (by omega)
   ·exact key 128 191 (by unfold leadN; rw [if_neg (by omega), if_neg (by omega), if_neg (by omega), if_neg (by omega), if_neg (by omega), if_neg (by omega), if_neg z, if_pos (by omega)]) (by omega)
theorem runes_char (r : Int) (rest : List Int) (hr : ∀ b ∈ rest, 0 ≤ b ∧ b < 256) : runesB (barr (bytesI r ++ rest)) = charI r :: runesB (barr rest) := by
 have l := bytesI_len r
 have cr := charI_rng r
 rw [runesB_cons _ (by rw [barr_size, List.length_append]; omega), dec_char r rest hr]
 simp only
 rw [barr_drop]
 congr 1
 omega
theorem split_char (r : Int) : ∃ x u, splitB (charB r) = [(x, u)] ∧ (u = 0 ∨ u = 1 ∨ u = 2) := by
 have e : runesB (charB r) = [charI r] := by
  have := runes_char r [] (by simp)
  rw [List.append_nil] at this
  exact this
 have f := firstC_bounds [charI r] (by simp)
 have f1 : firstC [charI r] = 1 := by have := f.2.1; simp at this; omega
 unfold splitB
 rw [e, clL_cons _ (by simp), f1]
 refine ⟨_, wideC ([charI r].take 1), rfl, wideC_le _⟩
theorem width_char (r : Int) : widthB (charB r) = 0 ∨ widthB (charB r) = 1 ∨ widthB (charB r) = 2 := by
 obtain ⟨x, u, e, h⟩ := split_char r
 unfold widthB
 rw [e]
 simpa using h
theorem char_size (r : Int) : (charB r).size ≤ 64 := by
 have := bytesI_len r
 unfold charB
 rw [barr_size]
 omega
/-! bytes that come one by one -/
theorem go_push' (k : ByteArray) (b : Int) (hb : 0 ≤ b ∧ b < 256) (n : Nat) : ∀ f lo hi r i, i + f = n → goO k f lo hi i = true → i ≤ k.size → goO (pushB k b) f lo hi i = true ∨ (goN (pushB k b) n f lo hi r i).2 = k.size + 1 ∨ goN (pushB k b) n f lo hi r i = (65533, k.size) := by
 intro f
 induction f with
 | zero => intro lo hi r i hn h; unfold goO at h; cases h
 | succ f ih =>
  intro lo hi r i hn h h1
  unfold goO at h
  by_cases e : i = k.size
  ·subst e
   have bn := push_new k b hb
   have ne : ¬ k.size = (pushB k b).size := by rw [push_size]; omega
   by_cases bad : byt (pushB k b) k.size < lo ∨ hi < byt (pushB k b) k.size
   ·exact Or.inr (Or.inr (goN_bad _ _ _ _ _ _ _ ne bad))
   ·rw [goN_good _ _ _ _ _ _ _ ne bad]
    cases f with
    | zero => right; left; unfold goN; show n = k.size + 1; omega
    | succ f =>
     left
     unfold goO
     rw [if_neg ne, if_neg bad]
     unfold goO
     rw [if_pos (by rw [push_size])]
  ·rw [if_neg e] at h
   have lt : i < k.size := by omega
   have bo := push_old k b i lt
   have ne : ¬ i = (pushB k b).size := by rw [push_size]; omega
   by_cases bad : byt k i < lo ∨ hi < byt k i
   ·rw [if_pos bad] at h; cases h
   ·rw [if_neg bad] at h
    rw [goN_good _ _ _ _ _ _ _ ne (by rw [bo]; exact bad)]
    have q := ih 128 191 (r * 64 + byt (pushB k b) i % 64) (i + 1) (by omega) h (by omega)
    rcases q with q | q
    ·left
     unfold goO
     rw [if_neg ne, bo, if_neg bad]
     exact q
    ·exact Or.inr q
theorem cert_nil (f : Nat) : certF f zB = ([], zB) := by
 cases f with
 | zero => rfl
 | succ f => unfold certF; rw [if_pos (show zB.size = 0 from rfl)]
theorem ext_none (s : ByteArray) (k : Nat) (h : s.size ≤ k) : s.extract k s.size = zB := by
 apply ByteArray.ext
 rw [ByteArray.data_extract]
 have : s.data.size = s.size := rfl
 refine Array.ext (by simp [zB]; omega) (fun i h1 h2 => ?_)
 simp [zB] at h2
theorem cert_single (f : Nat) (s : ByteArray) (h : s.size = 1) : (certF (f + 1) s).1 = [] ∨ ∃ r, (certF (f + 1) s).1 = [r] := by
 unfold certF
 rw [if_neg (by omega)]
 split
 ·exact Or.inl rfl
 ·right
  have b := decB_bounds s (by omega)
  rw [ext_none s _ (by omega), cert_nil]
  exact ⟨_, rfl⟩
theorem cert_form (k : ByteArray) (b : Int) (hb : 0 ≤ b ∧ b < 256) (h : KeptOk k) : (certB (pushB k b)).1 = [] ∨ ∃ r, (certB (pushB k b)).1 = [r] ∨ (certB (pushB k b)).1 = [65533, r] ∨ (certB (pushB k b)).1 = [65533] := by
 have key : ∀ s : ByteArray, s.size = 1 → (certB s).1 = [] ∨ ∃ r, (certB s).1 = [r] := fun s hs => by
  unfold certB
  rw [hs]
  exact cert_single 0 s hs
 rcases h with rfl | h
 ·rcases key (pushB zB b) (by rw [push_size]; rfl) with e | ⟨r, e⟩
  ·exact Or.inl e
  ·exact Or.inr ⟨r, Or.inl e⟩
 ·have hp := open_pos h
  have b0 : byt (pushB k b) 0 = byt k 0 := push_old k b 0 hp
  unfold openB at h
  simp only [Bool.and_eq_true, decide_eq_true_eq] at h
  obtain ⟨n2, ho⟩ := h
  have gp := go_push' k b hb (leadN (byt k 0)).1 ((leadN (byt k 0)).1 - 1) (leadN (byt k 0)).2.1 (leadN (byt k 0)).2.2 (byt k 0 % 2 ^ (7 - (leadN (byt k 0)).1)) 1 (by omega) ho hp
  have dec : decB (pushB k b) = goN (pushB k b) (leadN (byt k 0)).1 ((leadN (byt k 0)).1 - 1) (leadN (byt k 0)).2.1 (leadN (byt k 0)).2.2 (byt k 0 % 2 ^ (7 - (leadN (byt k 0)).1)) 1 := by
   unfold decB
   rw [b0, if_neg (by omega), if_neg (by omega)]
  unfold certB
  rw [push_size]
  unfold certF
  rw [if_neg (by rw [push_size]; omega)]
  by_cases o : openB (pushB k b) = true
  ·rw [if_pos o]; exact Or.inl rfl
  ·rw [if_neg o]
   rcases gp with gp | gp | gp
   ·exfalso
    apply o
    unfold openB
    rw [b0, gp]
    simp
    exact n2
   ·rw [dec, gp, ext_none _ _ (by rw [push_size]; exact Nat.le_refl _), cert_nil]
    exact Or.inr ⟨_, Or.inl rfl⟩
   ·rw [dec, gp]
    have s1 : ((pushB k b).extract k.size (pushB k b).size).size = 1 := by rw [ByteArray.size_extract, push_size]; omega
    obtain ⟨m, hm⟩ : ∃ m, k.size = m + 1 := ⟨k.size - 1, by omega⟩
    have c := cert_single m _ s1
    simp only
    rw [hm] at c ⊢
    rcases c with e | ⟨r, e⟩
    ·rw [e]; exact Or.inr ⟨0, Or.inr (Or.inr rfl)⟩
    ·rw [e]; exact Or.inr ⟨r, Or.inr (Or.inl rfl)⟩
structure Live (t : Trm) : Prop where
 fine : Fine t
 st : StOk t
 opn : OpnOk t
 rest : RestOk t
 reps : t.reps.size ≤ 65536
structure Run (t t' : Trm) : Prop where
 fine : Fine t'
 opn : OpnOk t'
 held : t'.held = t.held
 reps : t.reps.size ≤ 65536 → t'.reps.size ≤ 65536
 kept : t'.kept = t.kept
 state : t'.state = t.state ∨ t'.state = 1 ∧ t'.opn = -1
theorem run_rune {t : Trm} (h : Fine t) (o : OpnOk t) (r : Int) : Run t (runeT t r) := by
 have f := fine_rune h r
 unfold runeT at f ⊢
 split
 ·exact ⟨by rw [if_pos (by assumption)] at f; exact f, Or.inl rfl, rfl, id, rfl, Or.inr ⟨rfl, rfl⟩⟩
 ·rename_i n1
  rw [if_neg n1] at f
  split
  ·rename_i c
   rw [if_pos c] at f
   have q := ho_control t r
   have k := kst_control t r
   exact ⟨f, Or.inl (control_opn t r), q.held, q.reps, k.kept, Or.inl k.state⟩
  ·rename_i n2
   rw [if_neg n2] at f
   split
   ·rename_i c
    rw [if_pos c] at f
    have p := pos_some h c
    obtain ⟨a, b⟩ := opn_print h p o (charB r) (char_size r) (width_char r)
    have k := kst_print t (charB r)
    exact ⟨f, a, b.held, b.reps, k.kept, Or.inl k.state⟩
   ·exact ⟨h, o, rfl, id, rfl, Or.inl rfl⟩
theorem rune_same {t : Trm} (r : Int) (h : r ≠ 27) : (runeT t r).state = t.state := by
 unfold runeT
 rw [if_neg h]
 split
 ·exact (kst_control t r).state
 ·split
  ·exact (kst_print t _).state
  ·rfl
theorem run_runes : ∀ (l : List Int) {t : Trm}, Fine t → OpnOk t → t.reps.size ≤ 65536 → OpnOk (runesT t l) ∧ (runesT t l).held = t.held ∧ (runesT t l).reps.size ≤ 65536
 | [], t, h, o, q => ⟨o, rfl, q⟩
 | r :: l, t, h, o, q => by
  have a := run_rune h o r
  obtain ⟨b1, b2, b3⟩ := run_runes l a.fine a.opn (a.reps q)
  exact ⟨b1, b2.trans a.held, b3⟩
theorem run_rest {t : Trm} (h : Fine t) (o : OpnOk t) (s0 : t.state = 0) (r : Int) : RestOk (runeT t r) := by
 have a := run_rune h o r
 intro n
 rcases a.state with e | e
 ·exact absurd (e.trans s0) n
 ·exact e.2
theorem live_takeG {t : Trm} (h : Live t) (s0 : t.state = 0) (b : Int) (hb : 0 ≤ b ∧ b < 256) : Live (takeG t b) ∧ (takeG t b).held = t.held := by
 have f := fine_takeG h.fine b
 have s := takeG_ok t b s0
 have cf := cert_form t.kept b hb h.st.kept
 unfold takeG at f s ⊢
 have h1 : Fine { t with kept := (certB (pushB t.kept b)).2 } := h.fine.still rfl rfl rfl
 have o1 : OpnOk { t with kept := (certB (pushB t.kept b)).2 } := by
  rcases h.opn with e | e
  ·exact Or.inl e
  ·exact Or.inr (e.same ⟨rfl, rfl, rfl, rfl⟩)
 have r := run_runes (certB (pushB t.kept b)).1 h1 o1 h.reps
 refine ⟨⟨f, s, r.1, ?_, r.2.2⟩, r.2.1⟩
 generalize hu : ({ t with kept := (certB (pushB t.kept b)).2 } : Trm) = u at *
 have us : u.state = 0 := by rw [← hu]; exact s0
 rcases cf with e | ⟨x, e | e | e⟩
 ·rw [e]; intro n; exact absurd us n
 ·rw [e]; exact run_rest h1 o1 us x
 ·rw [e]
  have a := run_rune h1 o1 65533
  exact run_rest a.fine a.opn ((rune_same 65533 (by decide)).trans us) x
 ·rw [e]; exact run_rest h1 o1 us 65533
def Off (n : Nat) (u : Trm) : Prop := u.opn = -1 ∧ u.reps.size ≤ 65536 ∧ u.held.size ≤ n
theorem Ho.goOff {n : Nat} {u u' : Trm} (h : Ho u u') (k : Off n u) : Off n u' := ⟨h.off k.1, h.reps k.2.1, by rw [h.held]; exact k.2.2⟩
theorem Off.live {n : Nat} {u : Trm} (h : Off n u) (f : Fine u) (s : StOk u) : Live u := ⟨f, s, Or.inl h.1, fun _ => h.1, h.2.1⟩
theorem off_same {n : Nat} {u u' : Trm} (k : Off n u) (e1 : u'.opn = u.opn) (e2 : u'.reps = u.reps) (e3 : u'.held = u.held) : Off n u' := ⟨e1.trans k.1, by rw [e2]; exact k.2.1, by rw [e3]; exact k.2.2⟩
theorem off_escaped {n : Nat} {t : Trm} (h : Fine t) (k : Off n t) (b : Int) : Off n (escapedT t b) := by
 have key : ∀ u : Trm, Off n u → Off n (if u.w * u.h = 0 then u else if b = 69 then { (indexT (setX u 0)) with pend := false } else if b = 68 then { (indexT u) with pend := false } else if b = 77 then { (reverseT u) with pend := false } else if b = 72 then { u with stops := u.stops.set u.cur.x.toNat true } else u) := by
  intro u hu
  have i1 : Off n (indexT (setX u 0)) := (ho_index (setX u 0)).goOff (off_same hu rfl rfl rfl)
  have i2 := (ho_index u).goOff hu
  have i3 := (ho_reverse u).goOff hu
  repeat' split
  all_goals first
  | exact hu
  | exact off_same i1 rfl rfl rfl
  | exact off_same i2 rfl rfl rfl
  | exact off_same i3 rfl rfl rfl
  | exact off_same hu rfl rfl rfl
 unfold escapedT
 simp only
 refine key _ ?_
 repeat' split
 all_goals first
 | exact off_same k rfl rfl rfl
 | exact ⟨k.1, k.2.1, Nat.zero_le _⟩
 | exact ⟨rfl, k.2.1, Nat.zero_le _⟩
theorem titled_same (t : Trm) : (titledT t).opn = t.opn ∧ (titledT t).reps = t.reps ∧ (titledT t).held = t.held := by
 unfold titledT
 simp only
 split <;> exact ⟨rfl, rfl, rfl⟩
theorem off_push {n : Nat} {u : Trm} (k : Off n u) (b : Int) : Off (n + 1) { u with held := pushB u.held b } := ⟨k.1, k.2.1, by show (pushB u.held b).size ≤ n + 1; rw [push_size]; have := k.2.2; omega⟩
theorem Off.le {n m : Nat} {u : Trm} (k : Off n u) (h : n ≤ m) : Off m u := ⟨k.1, k.2.1, Nat.le_trans k.2.2 h⟩
theorem live_takeE {t : Trm} (h : Live t) (o : t.opn = -1) (b : Int) (hb : 0 ≤ b ∧ b < 256) : Live (takeE t b) ∧ (takeE t b).held.size ≤ t.held.size + 1 := by
 have f := fine_takeE h.fine b
 have s := takeE_ok t b h.st
 have k : Off t.held.size t := ⟨o, h.reps, Nat.le_refl _⟩
 have fin : ∀ u, u = takeE t b → Off (t.held.size + 1) u → Live (takeE t b) ∧ (takeE t b).held.size ≤ t.held.size + 1 := by
  intro u e q
  subst e
  exact ⟨q.live f s, q.2.2⟩
 by_cases c1 : b = 27
 ·exact fin { t with state := 1 } (by unfold takeE; rw [if_pos c1]) ((off_same k rfl rfl rfl).le (Nat.le_succ _))
 by_cases c2 : b < 32
 ·exact fin (controlT t b) (by unfold takeE; rw [if_neg c1, if_pos c2]) (((ho_control t b).goOff k).le (Nat.le_succ _))
 by_cases c3 : b = 127
 ·exact fin t (by unfold takeE; rw [if_neg c1, if_neg c2, if_pos c3]) (k.le (Nat.le_succ _))
 by_cases c4 : 127 < b
 ·have e : takeE t b = takeG { t with state := 0 } b := by unfold takeE; rw [if_neg c1, if_neg c2, if_neg c3, if_pos c4]
  have q := live_takeG (t := { t with state := 0 }) ⟨h.fine.still rfl rfl rfl, ⟨Int.le_refl 0, by show (0 : Int) ≤ 7; decide, h.st.kept⟩, Or.inl o, fun _ => o, h.reps⟩ rfl b hb
  rw [e]
  exact ⟨q.1, by rw [q.2]; exact Nat.le_succ _⟩
 by_cases c5 : t.state = 3
 ·by_cases c6 : b < 64
  ·exact fin { t with held := pushB t.held b } (by unfold takeE; rw [if_neg c1, if_neg c2, if_neg c3, if_neg c4, if_pos c5, if_pos c6]) (off_push k b)
  ·refine fin (sequenceT { t with state := 0 } b) (by unfold takeE; rw [if_neg c1, if_neg c2, if_neg c3, if_neg c4, if_pos c5, if_neg c6]) (Off.le ?_ (Nat.le_succ _))
   exact (ho_sequence (t := { t with state := 0 }) (h.fine.still rfl rfl rfl) b).goOff ⟨rfl, h.reps, Nat.le_refl _⟩
 by_cases c7 : b < 48
 ·exact fin { t with state := 2 } (by unfold takeE; rw [if_neg c1, if_neg c2, if_neg c3, if_neg c4, if_neg c5, if_pos c7]) ((off_same k rfl rfl rfl).le (Nat.le_succ _))
 by_cases c8 : t.state = 2
 ·exact fin { t with state := 0 } (by unfold takeE; rw [if_neg c1, if_neg c2, if_neg c3, if_neg c4, if_neg c5, if_neg c7, if_pos c8]) ((off_same k rfl rfl rfl).le (Nat.le_succ _))
 ·exact fin (escapedT t b) (by unfold takeE; rw [if_neg c1, if_neg c2, if_neg c3, if_neg c4, if_neg c5, if_neg c7, if_neg c8]) ((off_escaped h.fine k b).le (Nat.le_succ _))
theorem live_take {t : Trm} (h : Live t) (b : Int) (hb : 0 ≤ b ∧ b < 256) : Live (takeT t b) ∧ (takeT t b).held.size ≤ t.held.size + 1 := by
 have f := fine_take h.fine b
 have s := take_ok t b h.st
 by_cases c0 : t.state = 0
 ·have q := live_takeG h c0 b hb
  have e : takeT t b = takeG t b := by unfold takeT; rw [if_pos c0]
  rw [e]
  exact ⟨q.1, by rw [q.2]; exact Nat.le_succ _⟩
 have o := h.rest c0
 have k : Off t.held.size t := ⟨o, h.reps, Nat.le_refl _⟩
 have fin : ∀ u, u = takeT t b → Off (t.held.size + 1) u → Live (takeT t b) ∧ (takeT t b).held.size ≤ t.held.size + 1 := by
  intro u e q
  subst e
  exact ⟨q.live f s, q.2.2⟩
 obtain ⟨t1, t2, t3⟩ := titled_same t
 by_cases c1 : b = 24 ∨ b = 26
 ·exact fin { t with state := 0 } (by unfold takeT; rw [if_neg c0, if_pos c1]) ((off_same k rfl rfl rfl).le (Nat.le_succ _))
 by_cases c2 : t.state = 6 ∨ t.state = 7
 ·by_cases c3 : b ≠ 92
  ·have e : takeT t b = takeE { t with state := 1 } b := by unfold takeT; rw [if_neg c0, if_neg c1, if_pos c2, if_pos c3]
   rw [e]
   exact live_takeE (t := { t with state := 1 }) ⟨h.fine.still rfl rfl rfl, ⟨by show (0 : Int) ≤ 1; decide, by show (1 : Int) ≤ 7; decide, h.st.kept⟩, Or.inl o, fun _ => o, h.reps⟩ o b hb
  ·by_cases c4 : t.state = 6
   ·exact fin { (titledT t) with state := 0 } (by unfold takeT; rw [if_neg c0, if_neg c1, if_pos c2, if_neg c3, if_pos c4]) ((off_same k t1 t2 t3).le (Nat.le_succ _))
   ·exact fin { t with state := 0 } (by unfold takeT; rw [if_neg c0, if_neg c1, if_pos c2, if_neg c3, if_neg c4]) ((off_same k rfl rfl rfl).le (Nat.le_succ _))
 by_cases c3 : t.state = 4 ∨ t.state = 5
 ·refine fin (withinT t b) (by unfold takeT; rw [if_neg c0, if_neg c1, if_neg c2, if_pos c3]) ?_
  unfold withinT
  repeat' split
  ·exact (off_same k rfl rfl rfl).le (Nat.le_succ _)
  ·exact k.le (Nat.le_succ _)
  ·exact (off_same k t1 t2 t3).le (Nat.le_succ _)
  ·exact off_push k b
  ·exact k.le (Nat.le_succ _)
 ·have e : takeT t b = takeE t b := by unfold takeT; rw [if_neg c0, if_neg c1, if_neg c2, if_neg c3]
  rw [e]
  exact live_takeE h o b hb
theorem live_feed : ∀ (l : List Int) {t : Trm}, Live t → (∀ b ∈ l, 0 ≤ b ∧ b < 256) → Live (feedT t l) ∧ (feedT t l).held.size ≤ t.held.size + l.length
 | [], t, h, _ => ⟨h, Nat.le_refl _⟩
 | b :: l, t, h, r => by
  have a := live_take h b (r b (by simp))
  have c := live_feed l a.1 (fun x hx => r x (by simp [hx]))
  refine ⟨c.1, ?_⟩
  show (feedT (takeT t b) l).held.size ≤ _
  rw [List.length_cons]
  omega
theorem live_new (w h : Int) (w0 : 0 ≤ w) (w1 : w ≤ 4096) (h0 : 0 ≤ h) (h1 : h ≤ 4096) (ar : w * h ≤ 1048576) : Live (newV w h) :=
 ⟨fine_new w h w0 w1 h0 h1 ar, new_ok w h, Or.inl rfl, fun _ => rfl, Nat.zero_le _⟩
end Go.Proofs.YtmaofighbpnbiaaGreatDoor
