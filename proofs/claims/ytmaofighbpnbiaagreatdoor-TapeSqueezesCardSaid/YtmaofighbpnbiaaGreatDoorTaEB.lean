/- What lies below tapes (kept of earlier texts: VtPl, TpP). -/
import Derived.Test.YtmaofighbpnbiaaGreatDoorTaEA
/- What a terminal is and does, as the program has it (plain; of no program). -/
namespace Go.Proofs.YtmaofighbpnbiaaGreatDoor
open Go.RowKit
set_option linter.unusedVariables false
structure Cur where
 x : Int
 y : Int
 st : Sty
 org : Bool
structure Trm where
 w : Int
 h : Int
 cells : List Cel
 cur : Cur
 away : List Cel
 sav : Cur
 pend : Bool
 wrap : Bool
 ins : Bool
 shown : Bool
 alt : Bool
 top : Int
 bot : Int
 stops : List Bool
 opn : Int
 name : ByteArray
 reps : ByteArray
 wrt : List Bool
 state : Int
 held : ByteArray
 kept : ByteArray
def cur0 : Cur := ⟨0, 0, qB, false⟩
def kT (w : Int) : List Bool := (List.range w.toNat).map fun x => decide (0 < x /\ x % 8 = 0)
def newV (w h : Int) : Trm :=
  { w := w, h := h, cells := List.replicate (w * h).toNat qv, cur := cur0, away := List.replicate (w * h).toNat qv, sav := cur0, pend := false, wrap := true, ins := false, shown := true, alt := false, top := 0, bot := h - 1,
    stops := kT w, opn := -1, name := zB, reps := zB, wrt := List.replicate (w * h).toNat false, state := 0, held := zB, kept := zB }
def blkS (s : Sty) : Cel := ⟨⟨#[32]⟩, 1, zP s⟩
def Trm.blank (t : Trm) : Cel := blkS ⟨0, t.cur.st.bg, qB.at_⟩
def Trm.cell (t : Trm) (i : Nat) : Cel := t.cells.getD i celD
def setX (t : Trm) (x : Int) : Trm := { t with cur := { t.cur with x := x } }
def setY (t : Trm) (y : Int) : Trm := { t with cur := { t.cur with y := y } }
def setSt (t : Trm) (s : Sty) : Trm := { t with cur := { t.cur with st := s } }
def putT (t : Trm) (i : Nat) (c : Cel) : Trm := { t with cells := t.cells.set i c, wrt := t.wrt.set i true }
def zg (t : Trm) (x y : Int) : Trm :=
 if x <= 0 \/ t.w <= x \/ (t.cell (y * t.w + x).toNat).wide ≠ 0 then t
 else putT (putT t ((y * t.w + x).toNat - 1) (blkS (t.cell ((y * t.w + x).toNat - 1)).st)) (y * t.w + x).toNat (blkS (t.cell (y * t.w + x).toNat).st)
def zG (t : Trm) (x y : Int) (s : ByteArray) (n : Int) (st : Sty) : Trm :=
 let t1 := putT (zg (zg t x y) (x + n) y) (y * t.w + x).toNat ⟨s, n, st⟩
 if n = 2 then putT t1 ((y * t.w + x).toNat + 1) ⟨zB, 0, st⟩ else t1
def qd (t : Trm) (x : Int) : Trm := if t.w <= x then { (setX t (t.w - 1)) with pend := t.wrap } else setX t x
def zn (t : Trm) (f : Nat) : Nat -> Trm
 | 0 => t
 | n + 1 => putT (zn t f n) (f + n) t.blank
def zt (t : Trm) (f : Nat) : Nat -> Trm
 | 0 => t
 | n + 1 => { zt t f n with wrt := (zt t f n).wrt.set (f + n) true }
def zh (t : Trm) (f : Nat) (l : List Cel) : Trm := { t with cells := t.cells.take f ++ l ++ t.cells.drop (f + l.length) }
def upL' (l : List Cel) (k : Nat) : List Cel := l.drop k ++ l.drop (l.length - k)
def xS (l : List Cel) (k : Nat) : List Cel := l.take k ++ l.take (l.length - k)
def absI (n : Int) : Int := max n (-n)
def zX (t : Trm) (f e n : Int) : Trm :=
 let a := (f * t.w).toNat
 let z := (e * t.w).toNat
 let l := (t.cells.drop a).take (z - a)
 let k := (min (absI n * t.w) (l.length : Int)).toNat
 if 0 < n then zt (zn (zh t a (upL' l k)) (z - k) k) a (z - a)
 else zt (zn (zh t a (xS l k)) a k) a (z - a)
def zD (t : Trm) : Trm := if t.cur.y = t.bot then zX t t.top (t.bot + 1) 1 else setY t (min (t.cur.y + 1) (t.h - 1))
def qp (t : Trm) : Trm := if t.cur.y = t.top then zX t t.top (t.bot + 1) (-1) else setY t (max (t.cur.y - 1) 0)
def zy (t : Trm) : Trm := zD (setX { t with pend := false } 0)
def zH (t : Trm) (n : Int) : Trm :=
 let a := (t.cur.y * t.w + t.cur.x).toNat
 let z := ((t.cur.y + 1) * t.w).toNat
 let t1 := zg t t.cur.x t.cur.y
 if 0 < n then
  let k := min n ((z - a : Nat) : Int)
  let t2 := zg t1 (t.w - k) t.cur.y
  zt (zn (zh t2 a (xS ((t2.cells.drop a).take (z - a)) k.toNat)) a k.toNat) a (z - a)
 else
  let k := min (-n) ((z - a : Nat) : Int)
  let t2 := zg t1 (t.cur.x + k) t.cur.y
  zt (zn (zh t2 a (upL' ((t2.cells.drop a).take (z - a)) k.toNat)) (z - k.toNat) k.toNat) a (z - a)
def z8 (t : Trm) (f e : Int) : Trm :=
 let t1 := zg t (f % t.w) (f / t.w)
 let t2 := if e < t.cells.length then zg t1 (e % t.w) (e / t.w) else t1
 zn t2 f.toNat (e - f).toNat
def tabF (t : Trm) (d : Int) : Nat -> Int -> Int
 | 0, x => x
 | f + 1, x => if x + d < 0 \/ t.w <= x + d then x else if t.stops.getD (x + d).toNat false = true then x + d else tabF t d f (x + d)
def tabT (t : Trm) (d : Int) : Trm := setX t (tabF t d (t.w.toNat + 1) t.cur.x)
def jx (t : Trm) : Trm :=
 let c := t.sav
 let x := if t.w * t.h = 0 then 0 else max 0 (min c.x (t.w - 1))
 let y := if t.w * t.h = 0 then 0 else max 0 (min c.y (t.h - 1))
 { t with cur := ⟨x, y, c.st, c.org⟩, pend := false }
def jM (t : Trm) : Trm := { t with cur := { t.cur with x := 0, y := if t.cur.org = true then t.top else 0 } }
def qT (t0 : Trm) (r : Int) : Trm :=
 let t := { t0 with opn := -1 }
 if t.w * t.h = 0 then t
 else if r = 8 then { (setX t (max 0 (t.cur.x - 1))) with pend := false }
 else if r = 9 then { (tabT t 1) with pend := false }
 else if r = 10 \/ r = 11 \/ r = 12 then { (zD t) with pend := false }
 else if r = 13 then { (setX t 0) with pend := false }
 else t
def zo (s : ByteArray) : Int := ((qk s).map (·.2)).sum
def zQ (t0 : Trm) (s : ByteArray) : Trm :=
 let t := { t0 with opn := -1 }
 let n := zo s
 if n = 0 \/ t.w < n then t
 else
  let t1 := if t.pend = true then zy t else t
  if t1.w < t1.cur.x + n /\ t1.wrap = false then t1
  else
   let t2 := if t1.w < t1.cur.x + n then zy t1 else t1
   let t3 := if t2.ins = true then zH t2 n else t2
   let t4 := { t3 with opn := t3.cur.y * t3.w + t3.cur.x }
   qd (zG t4 t4.cur.x t4.cur.y s n t4.cur.st) (t4.cur.x + n)
def qe (t : Trm) (s : ByteArray) : Trm :=
 if 0 <= t.opn then
  match oneB ((t.cell t.opn.toNat).text ++ s) with
  | some n =>
   let c := t.cell t.opn.toNat
   let x := t.opn % t.w
   let y := t.opn / t.w
   if n = c.wide then zG t x y (c.text ++ s) n c.st
   else if x < t.w - 1 then qd (zG t x y (c.text ++ s) n c.st) (x + 2)
   else t
  | none => zQ t s
 else zQ t s
def qU (r : Int) : ByteArray := barr (qj r)
def zY (t : Trm) (r : Int) : Trm :=
 if r = 27 then { t with opn := -1, state := 1 }
 else if r < 32 \/ 127 <= r /\ r < 160 then qT t r
 else if 0 < t.w * t.h then qe t (qU r) else t
/-! sequences -/
structure Nums where
 prefix_ : Int
 list : List Int
 void : Bool
def digB (c : Int) : Bool := decide (48 <= c) && decide (c <= 57)
def jr : List Int -> Int -> List Int -> Bool -> List Int × Bool
 | [], x, l, v => (l ++ [x], v)
 | c :: r, x, l, v => if digB c = true then jr r (min (10 * x + (c - 48)) 9999) l v else if c = 59 then jr r 0 (l ++ [x]) v else jr r x l true
def byL (s : ByteArray) : List Int := s.data.toList.map fun b => (b.toNat : Int)
def jZ (s : ByteArray) : Nums :=
 let b := byL s
 let p := if 60 <= b.getD 0 0 then b.getD 0 0 else 0
 let q := jr (if 60 <= b.getD 0 0 then b.drop 1 else b) 0 [] false
 ⟨p, q.1.take 32, q.2⟩
def Nums.count (n : Nums) (i : Nat) : Int := if i < n.list.length then max (n.list.getD i 0) 1 else 1
def qw (t : Trm) (s : ByteArray) : Trm := if t.reps.size + (s.size + 2) <= 65536 then { t with reps := t.reps ++ (⟨#[27, 91]⟩ ++ s) } else t
def qV (t : Trm) (k : Int) : Trm :=
 if k = 5 then qw t ⟨#[48, 110]⟩
 else if k = 6 then qw t (((itB ((if t.cur.org = true then max (t.cur.y - t.top) 0 else t.cur.y) + 1) ++ ⟨#[59]⟩) ++ itB (t.cur.x + 1)) ++ ⟨#[82]⟩)
 else t
def allW (t : Trm) : Trm := { t with wrt := List.replicate t.wrt.length true }
def qf (t : Trm) (k : Int) (on : Bool) : Trm :=
 if k = 6 then { (jM { t with cur := { t.cur with org := on } }) with pend := false }
 else if k = 7 then { t with wrap := on, pend := t.pend && on }
 else if k = 25 then { t with shown := on }
 else if k = 1049 then
  let t1 := { t with pend := false }
  if on = t.alt then t1
  else
   let t2 := allW { t1 with alt := on, cells := t.away, away := t.cells }
   if on = true then zn { t2 with sav := t2.cur } 0 t2.cells.length else jx t2
 else t
def upT (t : Trm) (k : Int) : Trm := setY t (max (t.cur.y - k) (if t.top <= t.cur.y then t.top else 0))
def xT (t : Trm) (k : Int) : Trm := setY t (min (t.cur.y + k) (if t.cur.y <= t.bot then t.bot else t.h - 1))
def rowT (t : Trm) (k : Int) : Trm := setY t (if t.cur.org = true then min (t.top + k - 1) t.bot else min k t.h - 1)
def xU (t : Trm) (k : Int) : Trm := setX t (min k t.w - 1)
def jf (t : Trm) (d : Int) : Nat -> Trm
 | 0 => t
 | n + 1 => tabT (jf t d n) d
def qx (t : Trm) (n : Int) : Trm := if t.top <= t.cur.y /\ t.cur.y <= t.bot then setX (zX t t.cur.y (t.bot + 1) n) 0 else t
def jg (t : Trm) (n : Nums) : Trm :=
 let a := n.count 0
 let b := if 1 < n.list.length /\ 0 < n.list.getD 1 0 then min (n.list.getD 1 0) t.h else t.h
 if a < b then jM { t with top := a - 1, bot := b - 1 } else t
def jN (t : Trm) (k : Int) : Trm :=
 if k = 0 then z8 t (t.cur.y * t.w + t.cur.x) (t.cur.y * t.w + t.w)
 else if k = 1 then z8 t (t.cur.y * t.w) (t.cur.y * t.w + t.cur.x + 1)
 else if k = 2 then z8 t (t.cur.y * t.w) (t.cur.y * t.w + t.w)
 else t
def jO (t : Trm) (k : Int) : Trm :=
 if k = 0 then z8 t (t.cur.y * t.w + t.cur.x) t.cells.length
 else if k = 1 then z8 t 0 (t.cur.y * t.w + t.cur.x + 1)
 else if k = 2 \/ k = 3 then z8 t 0 t.cells.length
 else t
def actT? (t : Trm) (b : Int) (n : Nums) : Option Trm :=
 let k := n.count 0
 if b = 65 then some (upT t k) else if b = 66 \/ b = 101 then some (xT t k) else if b = 67 \/ b = 97 then some (setX t (min (t.cur.x + k) (t.w - 1))) else if b = 68 then some (setX t (max (t.cur.x - k) 0))
 else if b = 69 then some (setX (xT t k) 0) else if b = 70 then some (setX (upT t k) 0) else if b = 71 \/ b = 96 then some (xU t k) else if b = 72 \/ b = 102 then some (xU (rowT t k) (n.count 1))
 else if b = 73 then some (jf t 1 k.toNat) else if b = 74 then some (jO t (n.list.getD 0 0)) else if b = 75 then some (jN t (n.list.getD 0 0)) else if b = 76 then some (qx t (-k)) else if b = 77 then some (qx t k)
 else if b = 80 then some (zH t (-k)) else if b = 83 then some (zX t t.top (t.bot + 1) k) else if b = 84 then some (zX t t.top (t.bot + 1) (-k))
 else if b = 88 then some (z8 t (t.cur.y * t.w + t.cur.x) (t.cur.y * t.w + t.cur.x + min k (t.w - t.cur.x))) else if b = 90 then some (jf t (-1) k.toNat)
 else if b = 64 then some (zH t k) else if b = 100 then some (rowT t k) else if b = 114 then some (jg t n) else if b = 117 then some (jx t) else none
def actT (t : Trm) (b : Int) (n : Nums) : Trm :=
 if b = 103 then
  (if n.list.getD 0 0 = 0 then { t with stops := t.stops.set t.cur.x.toNat false } else if n.list.getD 0 0 = 3 then { t with stops := List.replicate t.stops.length false } else t)
 else if b = 115 then { t with sav := t.cur }
 else match actT? t b n with
  | some t' => { t' with pend := false }
  | none => t
def qq (t : Trm) (on : Bool) : List Int -> Trm
 | [] => t
 | k :: l => qq (qf t k on) on l
def jy (t0 : Trm) (b : Int) : Trm :=
 let t := { t0 with opn := -1 }
 let n := jZ t.held
 if n.void = true then t
 else if n.prefix_ = 63 /\ (b = 104 \/ b = 108) then qq t (decide (b = 104)) n.list
 else if n.prefix_ ≠ 0 then t
 else if b = 109 then setSt t (qo t.cur.st n.list)
 else if b = 110 then qV t (n.list.getD 0 0)
 else if b = 99 then (if n.list.getD 0 0 = 0 then qw t ⟨#[63, 54, 99]⟩ else t)
 else if b = 104 \/ b = 108 then (if 4 ∈ n.list then { t with ins := decide (b = 104) } else t)
 else if 0 < t.w * t.h then actT t b n else t
/-! bytes -/
def xm (s : ByteArray) : ByteArray := barr (zC (zF s))
def qy (t : Trm) : Trm :=
 let b := byL t.held
 if (b.getD 0 0 = 48 \/ b.getD 0 0 = 50) /\ b.getD 1 0 = 59 then { t with name := xm (t.held.extract 2 t.held.size) } else t
def zp (s : ByteArray) (b : Int) : ByteArray := s ++ ⟨#[UInt8.ofNat b.toNat]⟩
def qE (t : Trm) (b : Int) : Trm :=
 if b = 27 then { t with state := t.state + 2 }
 else if t.state = 5 then t
 else if b = 7 then { (qy t) with state := 0 }
 else if t.held.size < 1024 then { t with held := zp t.held b } else t
def jz (t0 : Trm) (b : Int) : Trm :=
 let t1 := { t0 with state := 0 }
 let t := if b = 91 then { t1 with state := 3, held := zB } else if b = 93 then { t1 with state := 4, held := zB } else if b = 80 \/ b = 88 \/ b = 94 \/ b = 95 then { t1 with state := 5 }
  else if b = 99 then allW { newV t1.w t1.h with reps := t1.reps } else if b = 55 then { t1 with sav := t1.cur } else if b = 56 then jx t1 else t1
 if t.w * t.h = 0 then t
 else if b = 69 then { (zD (setX t 0)) with pend := false }
 else if b = 68 then { (zD t) with pend := false }
 else if b = 77 then { (qp t) with pend := false }
 else if b = 72 then { t with stops := t.stops.set t.cur.x.toNat true }
 else t
def goO (t : ByteArray) : Nat -> Nat -> Nat -> Nat -> Bool
 | 0, _, _, _ => false
 | f + 1, lo, hi, i => if i = t.size then true else if byt t i < lo \/ hi < byt t i then false else goO t f 128 191 (i + 1)
def qF (s : ByteArray) : Bool := decide (2 <= (ze (byt s 0)).1) && goO s ((ze (byt s 0)).1 - 1) (ze (byt s 0)).2.1 (ze (byt s 0)).2.2 1
def zL : Nat -> ByteArray -> List Int × ByteArray
 | 0, s => ([], zB)
 | f + 1, s =>
  if s.size = 0 then ([], zB)
  else if qF s = true then ([], s)
  else (((decB s).1 : Int) :: (zL f (s.extract (decB s).2 s.size)).1, (zL f (s.extract (decB s).2 s.size)).2)
def zq (s : ByteArray) : List Int × ByteArray := zL s.size s
def qg (t : Trm) (l : List Int) : Trm := l.foldl zY t
def qL (t : Trm) (b : Int) : Trm := qg { t with kept := (zq (zp t.kept b)).2 } (zq (zp t.kept b)).1
def zu (t : Trm) (b : Int) : Trm :=
 if b = 27 then { t with state := 1 }
 else if b < 32 then qT t b
 else if b = 127 then t
 else if 127 < b then qL { t with state := 0 } b
 else if t.state = 3 then (if b < 64 then { t with held := zp t.held b } else jy { t with state := 0 } b)
 else if b < 48 then { t with state := 2 }
 else if t.state = 2 then { t with state := 0 }
 else jz t b
def zA (t : Trm) (b : Int) : Trm :=
 if t.state = 0 then qL t b
 else if b = 24 \/ b = 26 then { t with state := 0 }
 else if t.state = 6 \/ t.state = 7 then
  (if b ≠ 92 then zu { t with state := 1 } b else if t.state = 6 then { (qy t) with state := 0 } else { t with state := 0 })
 else if t.state = 4 \/ t.state = 5 then qE t b
 else zu t b
def qC (t : Trm) (l : List Int) : Trm := l.foldl zA t
def zM (t : Trm) : Scr := if t.shown = true /\ 0 < t.w * t.h then ⟨t.w, t.h, t.cells, t.cur.x, t.cur.y, true⟩ else ⟨t.w, t.h, t.cells, 0, 0, false⟩
end Go.Proofs.YtmaofighbpnbiaaGreatDoor
/- What ESC and c make of any terminal (plain). -/
namespace Go.Proofs.YtmaofighbpnbiaaGreatDoor
open Go.RowKit
set_option linter.unusedSimpArgs false
set_option linter.unusedVariables false
theorem jA (k : ByteArray) (b : Int) : (zp k b).size = k.size + 1 := by
 unfold zp
 rw [ByteArray.size_append]
 rfl
theorem JE (k : ByteArray) (b : Int) (i : Nat) (h : i < k.size) : byt (zp k b) i = byt k i := by
 have h2 : i < (zp k b).size := by rw [jA]; omega
 unfold byt
 rw [xR _ _ h2, xR _ _ h]
 congr 1
 unfold zp
 exact ByteArray.getElem_append_left h
theorem push_new (k : ByteArray) (b : Int) (h : 0 <= b /\ b < 256) : byt (zp k b) k.size = b.toNat := by
 have h2 : k.size < (zp k b).size := by rw [jA]; omega
 unfold byt
 rw [xR _ _ h2]
 have e : (zp k b).data = k.data ++ #[UInt8.ofNat b.toNat] := by unfold zp; exact ByteArray.data_append
 have : (zp k b)[k.size] = UInt8.ofNat b.toNat := by
  obtain ⟨d⟩ := k
  show (zp ⟨d⟩ b).data[d.size]'_ = _
  simp only [e]
  exact Array.getElem_push_eq
 rw [this, UInt8.toNat_ofNat']
 omega
def jB (k : ByteArray) : Prop := k = zB \/ qF k = true
theorem JF {s : ByteArray} (h : qF s = true) : 0 < s.size := by
 unfold qF at h
 simp only [Bool.and_eq_true, decide_eq_true_eq] at h
 rcases Nat.eq_zero_or_pos s.size with z | z
 ·exfalso
  have e : s = zB := by
   apply ByteArray.ext
   have : s.data.size = 0 := z
   rw [Array.eq_empty_of_size_eq_zero this]
   rfl
  rw [e] at h
  exact absurd h.1 (by decide)
 ·exact z
def Dim (t t' : Trm) : Prop := t'.w = t.w /\ t'.h = t.h
theorem Dim.refl (t : Trm) : Dim t t := ⟨rfl, rfl⟩
theorem Dim.trans {a b c : Trm} (h : Dim a b) (k : Dim b c) : Dim a c := ⟨k.1.trans h.1, k.2.trans h.2⟩
theorem vM (t : Trm) (x y : Int) : Dim t (zg t x y) := by
 unfold zg
 split
 ·exact Dim.refl t
 ·exact ⟨rfl, rfl⟩
theorem kU (t : Trm) (f : Nat) : ∀ n, Dim t (zn t f n)
 | 0 => Dim.refl t
 | n + 1 => (kU t f n).trans ⟨rfl, rfl⟩
theorem kV (t : Trm) (f : Nat) : ∀ n, Dim t (zt t f n)
 | 0 => Dim.refl t
 | n + 1 => (kV t f n).trans ⟨rfl, rfl⟩
theorem vN (t : Trm) (f : Nat) (l : List Cel) : Dim t (zh t f l) := ⟨rfl, rfl⟩
theorem zaJ (t : Trm) (f e n : Int) : Dim t (zX t f e n) := by
 unfold zX
 simp only
 split
 ·exact ((vN _ _ _).trans (kU _ _ _)).trans (kV _ _ _)
 ·exact ((vN _ _ _).trans (kU _ _ _)).trans (kV _ _ _)
theorem zaK (t : Trm) : Dim t (zD t) := by
 unfold zD
 split
 ·exact zaJ _ _ _ _
 ·exact ⟨rfl, rfl⟩
theorem j8 (t : Trm) : Dim t (zy t) := Dim.trans (b := setX { t with pend := false } 0) ⟨rfl, rfl⟩ (zaK _)
theorem JG (t : Trm) (n : Int) : Dim t (zH t n) := by
 unfold zH
 simp only
 split
 ·exact (((((vM _ _ _).trans (vM _ _ _)).trans (vN _ _ _)).trans (kU _ _ _)).trans (kV _ _ _))
 ·exact (((((vM _ _ _).trans (vM _ _ _)).trans (vN _ _ _)).trans (kU _ _ _)).trans (kV _ _ _))
structure StOk (t : Trm) : Prop where
 s0 : 0 <= t.state
 s7 : t.state <= 7
 kept : jB t.kept
end Go.Proofs.YtmaofighbpnbiaaGreatDoor
/- What is kept between bytes (plain). -/
namespace Go.Proofs.YtmaofighbpnbiaaGreatDoor
open Go.RowKit
set_option linter.unusedSimpArgs false
set_option linter.unusedVariables false
theorem goO_size (s : ByteArray) : ∀ f lo hi i, goO s f lo hi i = true -> s.size < i + f := by
 intro f
 induction f with
 | zero => intro lo hi i h; unfold goO at h; cases h
 | succ f ih =>
  intro lo hi i h
  unfold goO at h
  split at h
  ·omega
  ·split at h
   ·cases h
   ·have := ih _ _ _ h; omega
theorem ZJ {s : ByteArray} (h : qF s = true) : s.size <= 3 := by
 unfold qF at h
 simp only [Bool.and_eq_true, decide_eq_true_eq] at h
 have := goO_size _ _ _ _ _ h.2
 have := vH (byt s 0)
 omega
theorem zaL : ∀ f s, s.size <= f -> jB (zL f s).2 := by
 intro f
 induction f with
 | zero => intro s h; exact Or.inl rfl
 | succ f ih =>
  intro s h
  unfold zL
  by_cases z : s.size = 0
  ·rw [if_pos z]; exact Or.inl rfl
  ·rw [if_neg z]
   by_cases o : qF s = true
   ·rw [if_pos o]; exact Or.inr o
   ·rw [if_neg o]
    have b := jX s (by omega)
    exact ih _ (by rw [ByteArray.size_extract]; omega)
theorem zaM (s : ByteArray) : jB (zq s).2 := zaL _ s (Nat.le_refl _)
theorem cert_len : ∀ f s, (zL f s).1.length <= f := by
 intro f
 induction f with
 | zero => intro s; exact Nat.le_refl _
 | succ f ih =>
  intro s
  unfold zL
  split
  ·exact Nat.zero_le _
  ·split
   ·exact Nat.zero_le _
   ·show _ + 1 <= _
    have := ih (s.extract (decB s).2 s.size)
    omega
theorem JI {k : ByteArray} (h : jB k) : k.size <= 3 := by
 rcases h with rfl | h
 ·exact Nat.zero_le _
 ·exact ZJ h
structure Kst (t t' : Trm) : Prop where
 state : t'.state = t.state
 kept : t'.kept = t.kept
theorem Kst.refl (t : Trm) : Kst t t := ⟨rfl, rfl⟩
theorem Kst.trans {a b c : Trm} (h : Kst a b) (k : Kst b c) : Kst a c := ⟨k.1.trans h.1, k.2.trans h.2⟩
theorem xI (t : Trm) (x y : Int) : Kst t (zg t x y) := by unfold zg; split <;> exact ⟨rfl, rfl⟩
theorem ZK (t : Trm) (x y : Int) (s : ByteArray) (n : Int) (st : Sty) : Kst t (zG t x y s n st) := by
 have h := (xI t x y).trans (xI (zg t x y) (x + n) y)
 unfold zG
 simp only
 split <;> exact h.trans ⟨rfl, rfl⟩
theorem JJ (t : Trm) (x : Int) : Kst t (qd t x) := by unfold qd; split <;> exact ⟨rfl, rfl⟩
theorem xV (t : Trm) (f : Nat) : ∀ n, Kst t (zn t f n)
 | 0 => Kst.refl t
 | n + 1 => (xV t f n).trans ⟨rfl, rfl⟩
theorem ZL (t : Trm) (f : Nat) : ∀ n, Kst t (zt t f n)
 | 0 => Kst.refl t
 | n + 1 => (ZL t f n).trans ⟨rfl, rfl⟩
theorem JK (t : Trm) (f : Nat) (l : List Cel) : Kst t (zh t f l) := ⟨rfl, rfl⟩
theorem vO (t : Trm) (f e n : Int) : Kst t (zX t f e n) := by
 unfold zX
 simp only
 split <;> exact ((JK _ _ _).trans (xV _ _ _)).trans (ZL _ _ _)
theorem vP (t : Trm) : Kst t (zD t) := by
 unfold zD
 split
 ·exact vO _ _ _ _
 ·exact ⟨rfl, rfl⟩
theorem zaN (t : Trm) : Kst t (qp t) := by
 unfold qp
 split
 ·exact vO _ _ _ _
 ·exact ⟨rfl, rfl⟩
theorem JL (t : Trm) : Kst t (zy t) := Kst.trans (b := setX { t with pend := false } 0) ⟨rfl, rfl⟩ (vP _)
theorem JM (t : Trm) (n : Int) : Kst t (zH t n) := by
 unfold zH
 simp only
 split <;> exact (((((xI _ _ _).trans (xI _ _ _)).trans (JK _ _ _)).trans (xV _ _ _)).trans (ZL _ _ _))
theorem ZM (t : Trm) (f e : Int) : Kst t (z8 t f e) := by
 unfold z8
 simp only
 split
 ·exact ((xI _ _ _).trans (xI _ _ _)).trans (xV _ _ _)
 ·exact (xI _ _ _).trans (xV _ _ _)
theorem JN (t : Trm) (s : ByteArray) : Kst t (zQ t s) := by
 unfold zQ
 simp only
 have h0 : Kst t { t with opn := -1 } := ⟨rfl, rfl⟩
 split
 ·exact h0
 ·have h1 : Kst t (if ({ t with opn := -1 } : Trm).pend = true then zy { t with opn := -1 } else { t with opn := -1 }) := by
   split
   ·exact h0.trans (JL _)
   ·exact h0
  generalize (if ({ t with opn := -1 } : Trm).pend = true then zy { t with opn := -1 } else { t with opn := -1 }) = t1 at *
  split
  ·exact h1
  ·have h2 : Kst t (if t1.w < t1.cur.x + zo s then zy t1 else t1) := by
    split
    ·exact h1.trans (JL _)
    ·exact h1
   generalize (if t1.w < t1.cur.x + zo s then zy t1 else t1) = t2 at *
   have h3 : Kst t (if t2.ins = true then zH t2 (zo s) else t2) := by
    split
    ·exact h2.trans (JM _ _)
    ·exact h2
   generalize (if t2.ins = true then zH t2 (zo s) else t2) = t3 at *
   exact (Kst.trans (b := { t3 with opn := t3.cur.y * t3.w + t3.cur.x }) (h3.trans ⟨rfl, rfl⟩) (ZK _ _ _ _ _ _)).trans (JJ _ _)
theorem ZO (t : Trm) (s : ByteArray) : Kst t (qe t s) := by
 unfold qe
 split
 ·split
  ·simp only
   split
   ·exact ZK _ _ _ _ _ _
   ·split
    ·exact (ZK _ _ _ _ _ _).trans (JJ _ _)
    ·exact Kst.refl t
  ·exact JN t s
 ·exact JN t s
theorem kst_tab (t : Trm) (d : Int) : Kst t (tabT t d) := ⟨rfl, rfl⟩
theorem vQ (t : Trm) (r : Int) : Kst t (qT t r) := by
 have h0 : Kst t { t with opn := -1 } := ⟨rfl, rfl⟩
 unfold qT
 simp only
 repeat' split
 all_goals first
 | exact h0
 | exact ⟨rfl, rfl⟩
 | exact (h0.trans (vP _)).trans ⟨rfl, rfl⟩
structure Stk (t t' : Trm) : Prop where
 kept : t'.kept = t.kept
 state : t'.state = t.state \/ t'.state = 1
theorem Kst.stk {t t' : Trm} (h : Kst t t') : Stk t t' := ⟨h.kept, Or.inl h.state⟩
theorem stk_rune (t : Trm) (r : Int) : Stk t (zY t r) := by
 unfold zY
 split
 ·exact ⟨rfl, Or.inr rfl⟩
 ·split
  ·exact (vQ t r).stk
  ·split
   ·exact (ZO _ _).stk
   ·exact (Kst.refl t).stk
theorem zaO (l : List Int) : ∀ t : Trm, (qg t l).kept = t.kept /\ ((qg t l).state = t.state \/ (qg t l).state = 1) := by
 induction l with
 | nil => intro t; exact ⟨rfl, Or.inl rfl⟩
 | cons r l ih =>
  intro t
  have a := stk_rune t r
  have b := ih (zY t r)
  show (qg (zY t r) l).kept = _ /\ _
  refine ⟨b.1.trans a.kept, ?_⟩
  show (qg (zY t r) l).state = t.state \/ (qg (zY t r) l).state = 1
  rcases b.2 with b | b
  ·rcases a.state with a | a
   ·exact Or.inl (b.trans a)
   ·exact Or.inr (b.trans a)
  ·exact Or.inr b
theorem ZP (t : Trm) (b : Int) (h : t.state = 0) : StOk (qL t b) := by
 unfold qL
 have q := zaO (zq (zp t.kept b)).1 { t with kept := (zq (zp t.kept b)).2 }
 obtain ⟨q1, q2⟩ := q
 have q2 : (qg { t with kept := (zq (zp t.kept b)).2 } (zq (zp t.kept b)).1).state = t.state \/ (qg { t with kept := (zq (zp t.kept b)).2 } (zq (zp t.kept b)).1).state = 1 := q2
 exact ⟨by omega, by omega, by rw [q1]; exact zaM _⟩
theorem ZQ (t : Trm) (s : ByteArray) : Kst t (qw t s) := by unfold qw; split <;> exact ⟨rfl, rfl⟩
theorem zaP (t : Trm) (k : Int) : Kst t (qV t k) := by
 unfold qV
 split
 ·exact ZQ _ _
 ·split
  ·exact ZQ _ _
  ·exact Kst.refl t
theorem kst_mode (t : Trm) (k : Int) (on : Bool) : Kst t (qf t k on) := by
 unfold qf
 simp only
 repeat' split
 all_goals first
 | exact ⟨rfl, rfl⟩
 | exact (Kst.trans (b := { (allW { t with pend := false, alt := on, cells := t.away, away := t.cells }) with sav := t.cur }) ⟨rfl, rfl⟩ (xV _ _ _))
theorem JO (on : Bool) : ∀ (l : List Int) (t : Trm), Kst t (qq t on l)
 | [], t => Kst.refl t
 | k :: l, t => (kst_mode t k on).trans (JO on l _)
theorem JP (t : Trm) (d : Int) : ∀ n, Kst t (jf t d n)
 | 0 => Kst.refl t
 | n + 1 => (JP t d n).trans (kst_tab _ _)
theorem zaQ (t : Trm) (n : Int) : Kst t (qx t n) := by
 unfold qx
 split
 ·exact (vO _ _ _ _).trans ⟨rfl, rfl⟩
 ·exact Kst.refl t
theorem zaR (t : Trm) (k : Int) : Kst t (jN t k) := by
 unfold jN
 repeat' split
 all_goals first
 | exact ZM _ _ _
 | exact Kst.refl t
theorem zaS (t : Trm) (k : Int) : Kst t (jO t k) := by
 unfold jO
 repeat' split
 all_goals first
 | exact ZM _ _ _
 | exact Kst.refl t
theorem zaT (t : Trm) (n : Nums) : Kst t (jg t n) := by
 unfold jg
 simp only
 repeat' split
 all_goals exact ⟨rfl, rfl⟩
theorem ZR {P : Trm -> Prop} {c : Prop} [Decidable c] {x : Trm} {r : Option Trm} (h1 : P x) (h2 : ∀ t', r = some t' -> P t') : ∀ t', (if c then some x else r) = some t' -> P t' := by
 intro t' h
 split at h
 ·cases h; exact h1
 ·exact h2 t' h
theorem ZS? (t : Trm) (b : Int) (n : Nums) : ∀ t', actT? t b n = some t' -> Kst t t' := by
 unfold actT?
 simp only
 repeat (refine ZR (P := Kst t) (by first | exact ⟨rfl, rfl⟩ | exact JP _ _ _ | exact zaS _ _ | exact zaR _ _ | exact zaQ _ _ | exact JM _ _ | exact vO _ _ _ _ | exact ZM _ _ _ | exact zaT _ _) ?_)
 intro t' h
 cases h
theorem ZS (t : Trm) (b : Int) (n : Nums) : Kst t (actT t b n) := by
 unfold actT
 split
 ·repeat' split
  all_goals exact ⟨rfl, rfl⟩
 ·split
  ·exact ⟨rfl, rfl⟩
  ·cases h : actT? t b n with
   | none => exact Kst.refl t
   | some t' =>
    have := ZS? t b n t' h
    exact ⟨this.state, this.kept⟩
theorem zaU (t : Trm) (b : Int) : Kst t (jy t b) := by
 have h0 : Kst t { t with opn := -1 } := ⟨rfl, rfl⟩
 unfold jy
 simp only
 repeat' split
 all_goals first
 | exact h0
 | exact h0.trans (JO _ _ _)
 | exact ⟨rfl, rfl⟩
 | exact h0.trans (zaP _ _)
 | exact h0.trans (ZQ _ _)
 | exact h0.trans (ZS _ _ _)
theorem zaV (t : Trm) : Kst t (qy t) := by
 unfold qy
 simp only
 split <;> exact ⟨rfl, rfl⟩
theorem zaW (t : Trm) (b : Int) (h : StOk t) : StOk (jz t b) := by
 have z : jB zB := Or.inl rfl
 have key : ∀ u : Trm, StOk u -> StOk (if u.w * u.h = 0 then u else if b = 69 then { (zD (setX u 0)) with pend := false } else if b = 68 then { (zD u) with pend := false } else if b = 77 then { (qp u) with pend := false } else if b = 72 then { u with stops := u.stops.set u.cur.x.toNat true } else u) := by
  intro u hu
  have i1 := vP (setX u 0)
  have i2 := vP u
  have i3 := zaN u
  repeat' split
  ·exact hu
  ·exact ⟨by show 0 <= (zD (setX u 0)).state; rw [i1.state]; exact hu.s0, by show (zD (setX u 0)).state <= 7; rw [i1.state]; exact hu.s7, by show jB (zD (setX u 0)).kept; rw [i1.kept]; exact hu.kept⟩
  ·exact ⟨by show 0 <= (zD u).state; rw [i2.state]; exact hu.s0, by show (zD u).state <= 7; rw [i2.state]; exact hu.s7, by show jB (zD u).kept; rw [i2.kept]; exact hu.kept⟩
  ·exact ⟨by show 0 <= (qp u).state; rw [i3.state]; exact hu.s0, by show (qp u).state <= 7; rw [i3.state]; exact hu.s7, by show jB (qp u).kept; rw [i3.kept]; exact hu.kept⟩
  ·exact ⟨hu.s0, hu.s7, hu.kept⟩
  ·exact hu
 unfold jz
 simp only
 refine key _ ?_
 have m : ∀ (n : Int) (k : ByteArray) (u : Trm), u.state = n -> u.kept = k -> 0 <= n -> n <= 7 -> jB k -> StOk u := fun n k u e1 e2 h1 h2 h3 => ⟨by omega, by omega, by rw [e2]; exact h3⟩
 repeat' split
 ·exact m 3 t.kept _ rfl rfl (by decide) (by decide) h.kept
 ·exact m 4 t.kept _ rfl rfl (by decide) (by decide) h.kept
 ·exact m 5 t.kept _ rfl rfl (by decide) (by decide) h.kept
 ·exact m 0 zB _ rfl rfl (by decide) (by decide) z
 ·exact m 0 t.kept _ rfl rfl (by decide) (by decide) h.kept
 ·exact m 0 t.kept _ rfl rfl (by decide) (by decide) h.kept
 ·exact m 0 t.kept _ rfl rfl (by decide) (by decide) h.kept
theorem ZT (t : Trm) (b : Int) (h : StOk t) : StOk (zu t b) := by
 have m : ∀ (n : Int) (u : Trm), u.state = n -> u.kept = t.kept -> 0 <= n -> n <= 7 -> StOk u := fun n u e1 e2 h1 h2 => ⟨by omega, by omega, by rw [e2]; exact h.kept⟩
 have c := vQ t b
 have q := zaU { t with state := 0 } b
 unfold zu
 repeat' split
 ·exact m 1 _ rfl rfl (by decide) (by decide)
 ·exact m t.state _ c.state c.kept h.s0 h.s7
 ·exact h
 ·exact ZP _ _ rfl
 ·exact m t.state _ rfl rfl h.s0 h.s7
 ·exact m 0 _ q.state q.kept (by decide) (by decide)
 ·exact m 2 _ rfl rfl (by decide) (by decide)
 ·exact m 0 _ rfl rfl (by decide) (by decide)
 ·exact zaW t b h
theorem take_ok (t : Trm) (b : Int) (h : StOk t) : StOk (zA t b) := by
 have m : ∀ (n : Int) (u : Trm), u.state = n -> u.kept = t.kept -> 0 <= n -> n <= 7 -> StOk u := fun n u e1 e2 h1 h2 => ⟨by omega, by omega, by rw [e2]; exact h.kept⟩
 have s0 := h.s0
 have s7 := h.s7
 have tk := zaV t
 unfold zA
 split
 ·rename_i e; exact ZP t b e
 ·split
  ·exact m 0 _ rfl rfl (by decide) (by decide)
  ·split
   ·split
    ·exact ZT _ b (m 1 _ rfl rfl (by decide) (by decide))
    ·split
     ·exact m 0 _ rfl tk.kept (by decide) (by decide)
     ·exact m 0 _ rfl rfl (by decide) (by decide)
   ·split
    ·rename_i e
     unfold qE
     split
     ·exact m (t.state + 2) _ rfl rfl (by omega) (by omega)
     ·split
      ·exact h
      ·split
       ·exact m 0 _ rfl tk.kept (by decide) (by decide)
       ·split
        ·exact m t.state _ rfl rfl s0 s7
        ·exact h
    ·exact ZT t b h
theorem new_ok (w h : Int) : StOk (newV w h) := ⟨Int.le_refl 0, by show (0 : Int) <= 7; decide, Or.inl rfl⟩
end Go.Proofs.YtmaofighbpnbiaaGreatDoor
/- What every terminal keeps: its sizes, a cursor that lies within (plain). -/
namespace Go.Proofs.YtmaofighbpnbiaaGreatDoor
open Go.RowKit
set_option linter.unusedSimpArgs false
set_option linter.unusedVariables false
theorem JQ : ∀ (n : Nat) (l : List Int), l.length <= n -> ∀ c ∈ clL l, c.1.length <= 64 /\ (c.2 = 0 \/ c.2 = 1 \/ c.2 = 2) := by
 intro n
 induction n with
 | zero => intro l h c hc; rw [List.length_eq_zero_iff.1 (by omega : l.length = 0), vK] at hc; cases hc
 | succ n ih =>
  intro l h c hc
  by_cases e : l = []
  ·rw [e, vK] at hc; cases hc
  ·obtain ⟨f1, f2, f3⟩ := xG l e
   rw [vL l e] at hc
   rcases List.mem_cons.1 hc with rfl | m
   ·have := ZF (l.take (zr l))
    rw [List.length_take] at this
    exact ⟨by show (zC (l.take (zr l))).length <= 64; omega, JD _⟩
   ·exact ih _ (by rw [List.length_drop]; omega) c m
theorem JR (s : ByteArray) : ∀ c ∈ qk s, c.1.size <= 64 /\ (c.2 = 0 \/ c.2 = 1 \/ c.2 = 2) := by
 intro c hc
 unfold qk at hc
 obtain ⟨d, hd, rfl⟩ := List.mem_map.1 hc
 obtain ⟨a, b⟩ := JQ _ _ (Nat.le_refl _) d hd
 refine ⟨?_, b⟩
 show (barr d.1).size <= 64
 unfold barr
 simp [ByteArray.size]
 exact a
structure Fine (t : Trm) : Prop where
 w0 : 0 <= t.w
 w1 : t.w <= 4096
 h0 : 0 <= t.h
 h1 : t.h <= 4096
 ar : t.w * t.h <= 1048576
 cl : (t.cells.length : Int) = t.w * t.h
 al : (t.away.length : Int) = t.w * t.h
 wl : (t.wrt.length : Int) = t.w * t.h
 sl : (t.stops.length : Int) = t.w
 x0 : 0 <= t.cur.x
 y0 : 0 <= t.cur.y
 cx : t.cur.x < t.w \/ t.cur.x = 0
 cy : t.cur.y < t.h \/ t.cur.y = 0
 p0 : 0 <= t.top
 p1 : t.top <= t.bot \/ t.h = 0 /\ t.top = 0
 p2 : t.bot < t.h
def zm (t : Trm) : Prop := 0 < t.w /\ 0 < t.h
theorem Fine.some {t : Trm} (h : Fine t) (n : ¬ t.w * t.h = 0) : zm t := by
 have a := h.w0
 have b := h.h0
 refine ⟨?_, ?_⟩
 ·rcases Int.lt_or_eq_of_le a with c | c
  ·exact c
  ·exfalso; apply n; rw [<- c]; exact Int.zero_mul _
 ·rcases Int.lt_or_eq_of_le b with c | c
  ·exact c
  ·exfalso; apply n; rw [<- c]; exact Int.mul_zero _
theorem Fine.row {t : Trm} (h : Fine t) {y : Int} (y0 : 0 <= y) (y1 : y < t.h) : 0 <= y * t.w /\ y * t.w + t.w <= t.w * t.h := by
 have a := h.w0
 refine ⟨Int.mul_nonneg y0 a, ?_⟩
 have e : y * t.w + t.w = (y + 1) * t.w := by rw [Int.add_mul, Int.one_mul]
 rw [e, Int.mul_comm t.w t.h]
 exact Int.mul_le_mul_of_nonneg_right (by omega) a
structure Cw (t t' : Trm) : Prop where
 eq : t' = { t with cells := t'.cells, wrt := t'.wrt }
 cl : t'.cells.length = t.cells.length
 wl : t'.wrt.length = t.wrt.length
theorem Cw.refl (t : Trm) : Cw t t := ⟨rfl, rfl, rfl⟩
theorem Cw.trans {a b c : Trm} (h : Cw a b) (k : Cw b c) : Cw a c := by
 obtain ⟨e, h1, h2⟩ := h
 obtain ⟨f, k1, k2⟩ := k
 refine ⟨?_, k1.trans h1, k2.trans h2⟩
 rw [f, e]
theorem Cw.w {t t' : Trm} (h : Cw t t') : t'.w = t.w := by rw [h.eq]
theorem Cw.h {t t' : Trm} (h : Cw t t') : t'.h = t.h := by rw [h.eq]
theorem Cw.cur {t t' : Trm} (h : Cw t t') : t'.cur = t.cur := by rw [h.eq]
theorem Cw.opn {t t' : Trm} (h : Cw t t') : t'.opn = t.opn := by rw [h.eq]
theorem Cw.held {t t' : Trm} (h : Cw t t') : t'.held = t.held := by rw [h.eq]
theorem Cw.reps {t t' : Trm} (h : Cw t t') : t'.reps = t.reps := by rw [h.eq]
theorem Fine.cw {t t' : Trm} (h : Fine t) (k : Cw t t') : Fine t' := by
 obtain ⟨e, a, b⟩ := k
 generalize t'.cells = c at *
 generalize t'.wrt = u at *
 subst e
 exact ⟨h.w0, h.w1, h.h0, h.h1, h.ar, by show (c.length : Int) = _; rw [a]; exact h.cl, h.al, by show (u.length : Int) = _; rw [b]; exact h.wl, h.sl, h.x0, h.y0, h.cx, h.cy, h.p0, h.p1, h.p2⟩
theorem Cw.some {t t' : Trm} (h : Cw t t') (p : zm t) : zm t' := by unfold zm at p ⊢; rw [h.w, h.h]; exact p
theorem xo (t : Trm) (i : Nat) (c : Cel) : Cw t (putT t i c) := ⟨rfl, List.length_set, List.length_set⟩
theorem qs (t : Trm) (x y : Int) : Cw t (zg t x y) := by
 unfold zg
 split
 ·exact Cw.refl t
 ·exact (xo _ _ _).trans (xo _ _ _)
theorem jI (t : Trm) (x y : Int) (s : ByteArray) (n : Int) (st : Sty) : Cw t (zG t x y s n st) := by
 have h := (qs t x y).trans (qs (zg t x y) (x + n) y)
 unfold zG
 simp only
 split
 ·exact (h.trans (xo _ _ _)).trans (xo _ _ _)
 ·exact h.trans (xo _ _ _)
theorem js (t : Trm) (f : Nat) : ∀ n, Cw t (zn t f n)
 | 0 => Cw.refl t
 | n + 1 => (js t f n).trans (xo _ _ _)
theorem qW (t : Trm) (f : Nat) : ∀ n, Cw t (zt t f n)
 | 0 => Cw.refl t
 | n + 1 => (qW t f n).trans ⟨rfl, rfl, List.length_set⟩
theorem xp (t : Trm) (f : Nat) (l : List Cel) (h : l.length <= t.cells.length - f) : Cw t (zh t f l) := by
 refine ⟨rfl, ?_, rfl⟩
 unfold zh
 simp only [List.length_append, List.length_take, List.length_drop]
 omega
theorem ZU (l : List Cel) (k : Nat) (h : k <= l.length) : (upL' l k).length = l.length := by
 unfold upL'
 simp only [List.length_append, List.length_drop]
 omega
theorem ZV (l : List Cel) (k : Nat) (h : k <= l.length) : (xS l k).length = l.length := by
 unfold xS
 simp only [List.length_append, List.length_take]
 omega
theorem ZW (l : List Cel) (a n : Nat) : ((l.drop a).take n).length <= l.length - a := by
 simp only [List.length_take, List.length_drop]
 omega
theorem jP (t : Trm) (f e n : Int) : Cw t (zX t f e n) := by
 unfold zX
 simp only
 have q := ZW t.cells (f * t.w).toNat ((e * t.w).toNat - (f * t.w).toNat)
 generalize hl : (t.cells.drop (f * t.w).toNat).take ((e * t.w).toNat - (f * t.w).toNat) = l at *
 split
 ·exact ((xp _ _ _ (by rw [ZU _ _ (by omega)]; exact q)).trans (js _ _ _)).trans (qW _ _ _)
 ·exact ((xp _ _ _ (by rw [ZV _ _ (by omega)]; exact q)).trans (js _ _ _)).trans (qW _ _ _)
theorem xW (t : Trm) (f e : Int) : Cw t (z8 t f e) := by
 unfold z8
 simp only
 split
 ·exact ((qs _ _ _).trans (qs _ _ _)).trans (js _ _ _)
 ·exact (qs _ _ _).trans (js _ _ _)
theorem kW (t : Trm) (n : Int) (h : Fine t) (p : zm t) : Cw t (zH t n) := by
 have r := h.row h.y0 (by have := h.cy; have := p.2; omega)
 have e : (t.cur.y + 1) * t.w = t.cur.y * t.w + t.w := by rw [Int.add_mul, Int.one_mul]
 have x0 := h.x0
 have xw : t.cur.x < t.w := by have := h.cx; have := p.1; omega
 have cl := h.cl
 unfold zH
 simp only
 rw [e]
 split
 ·have c := (qs t t.cur.x t.cur.y).trans (qs (zg t t.cur.x t.cur.y) (t.w - min n (((t.cur.y * t.w + t.w).toNat - (t.cur.y * t.w + t.cur.x).toNat : Nat) : Int)) t.cur.y)
  generalize zg (zg t t.cur.x t.cur.y) (t.w - min n (((t.cur.y * t.w + t.w).toNat - (t.cur.y * t.w + t.cur.x).toNat : Nat) : Int)) t.cur.y = u at *
  have ul := c.cl
  refine c.trans (((xp _ _ _ ?_).trans (js _ _ _)).trans (qW _ _ _))
  rw [ZV _ _ (by simp only [List.length_take, List.length_drop]; omega)]
  exact ZW _ _ _
 ·have c := (qs t t.cur.x t.cur.y).trans (qs (zg t t.cur.x t.cur.y) (t.cur.x + min (-n) (((t.cur.y * t.w + t.w).toNat - (t.cur.y * t.w + t.cur.x).toNat : Nat) : Int)) t.cur.y)
  generalize zg (zg t t.cur.x t.cur.y) (t.cur.x + min (-n) (((t.cur.y * t.w + t.w).toNat - (t.cur.y * t.w + t.cur.x).toNat : Nat) : Int)) t.cur.y = u at *
  have ul := c.cl
  refine c.trans (((xp _ _ _ ?_).trans (js _ _ _)).trans (qW _ _ _))
  rw [ZU _ _ (by simp only [List.length_take, List.length_drop]; omega)]
  exact ZW _ _ _
/-! what moves the cursor -/
theorem xX {t t' : Trm} (h : Fine t) (e : t' = { t with cur := t'.cur, pend := t'.pend, opn := t'.opn, state := t'.state, held := t'.held, kept := t'.kept, reps := t'.reps, name := t'.name, ins := t'.ins, wrap := t'.wrap, shown := t'.shown, alt := t'.alt, sav := t'.sav }) (x0 : 0 <= t'.cur.x) (y0 : 0 <= t'.cur.y) (cx : t'.cur.x < t.w \/ t'.cur.x = 0) (cy : t'.cur.y < t.h \/ t'.cur.y = 0) : Fine t' := by
 have ew : t'.w = t.w := by rw [e]
 have eh : t'.h = t.h := by rw [e]
 have ec : t'.cells = t.cells := by rw [e]
 have ea : t'.away = t.away := by rw [e]
 have eu : t'.wrt = t.wrt := by rw [e]
 have es : t'.stops = t.stops := by rw [e]
 have et : t'.top = t.top := by rw [e]
 have eb : t'.bot = t.bot := by rw [e]
 exact ⟨by rw [ew]; exact h.w0, by rw [ew]; exact h.w1, by rw [eh]; exact h.h0, by rw [eh]; exact h.h1, by rw [ew, eh]; exact h.ar, by rw [ec, ew, eh]; exact h.cl, by rw [ea, ew, eh]; exact h.al, by rw [eu, ew, eh]; exact h.wl, by rw [es, ew]; exact h.sl, x0, y0, by rw [ew]; exact cx, by rw [eh]; exact cy, by rw [et]; exact h.p0, by rw [et, eb, eh]; exact h.p1, by rw [eb, eh]; exact h.p2⟩
theorem Fine.still {t t' : Trm} (h : Fine t) (e : t' = { t with cur := t'.cur, pend := t'.pend, opn := t'.opn, state := t'.state, held := t'.held, kept := t'.kept, reps := t'.reps, name := t'.name, ins := t'.ins, wrap := t'.wrap, shown := t'.shown, alt := t'.alt, sav := t'.sav }) (ex : t'.cur.x = t.cur.x) (ey : t'.cur.y = t.cur.y) : Fine t' :=
 xX h e (by rw [ex]; exact h.x0) (by rw [ey]; exact h.y0) (by rw [ex]; exact h.cx) (by rw [ey]; exact h.cy)
theorem jh {t : Trm} (h : Fine t) (x : Int) (x0 : 0 <= x) (cx : x < t.w \/ x = 0) : Fine (setX t x) := xX h rfl x0 h.y0 cx h.cy
theorem kX {t : Trm} (h : Fine t) (y : Int) (y0 : 0 <= y) (cy : y < t.h \/ y = 0) : Fine (setY t y) := xX h rfl h.x0 y0 h.cx cy
theorem jC {t : Trm} (h : Fine t) (b : Bool) : Fine { t with pend := b } := h.still rfl rfl rfl
theorem qX {t : Trm} (h : Fine t) (o : Int) : Fine { t with opn := o } := h.still rfl rfl rfl
theorem vR {t : Trm} (h : Fine t) (p : zm t) : Fine (zD t) := by
 unfold zD
 split
 ·exact h.cw (jP _ _ _ _)
 ·have := p.2
  have := h.y0
  exact kX h _ (by omega) (by omega)
theorem zaX {t : Trm} (h : Fine t) (p : zm t) : Fine (qp t) := by
 unfold qp
 split
 ·exact h.cw (jP _ _ _ _)
 ·have := p.2
  have := h.cy
  exact kX h _ (by omega) (by omega)
theorem xq {t t' : Trm} (d : Dim t t') (p : zm t) : zm t' := by unfold zm at p ⊢; rw [d.1, d.2]; exact p
theorem xY {t : Trm} (h : Fine t) (p : zm t) : Fine (zy t) := by
 unfold zy
 exact vR (jh (jC h _) 0 (Int.le_refl _) (Or.inr rfl)) p
theorem JS (t : Trm) (d : Int) : ∀ f x, 0 <= x -> (x < t.w \/ x = 0) -> 0 <= tabF t d f x /\ (tabF t d f x < t.w \/ tabF t d f x = 0)
 | 0, x, h, k => ⟨h, k⟩
 | f + 1, x, h, k => by
  unfold tabF
  by_cases c : x + d < 0 \/ t.w <= x + d
  ·rw [if_pos c]; exact ⟨h, k⟩
  ·rw [if_neg c]
   split
   ·exact ⟨by omega, by omega⟩
   ·exact JS t d f (x + d) (by omega) (by omega)
theorem JT {t : Trm} (h : Fine t) (d : Int) : Fine (tabT t d) := by
 unfold tabT
 have := JS t d (t.w.toNat + 1) t.cur.x h.x0 h.cx
 exact jh h _ this.1 this.2
theorem vS {t : Trm} (h : Fine t) (d : Int) : ∀ n, Fine (jf t d n)
 | 0 => h
 | n + 1 => JT (vS h d n) d
theorem vT {t : Trm} (h : Fine t) : Fine (jx t) := by
 have a := h.w0
 have b := h.h0
 by_cases c : t.w * t.h = 0
 ·exact xX h rfl (by show 0 <= (if t.w * t.h = 0 then (0 : Int) else _); rw [if_pos c]; exact Int.le_refl 0) (by show 0 <= (if t.w * t.h = 0 then (0 : Int) else _); rw [if_pos c]; exact Int.le_refl 0) (Or.inr (if_pos c)) (Or.inr (if_pos c))
 ·obtain ⟨p, q⟩ := h.some c
  have ex : (jx t).cur.x = max 0 (min t.sav.x (t.w - 1)) := if_neg c
  have ey : (jx t).cur.y = max 0 (min t.sav.y (t.h - 1)) := if_neg c
  exact xX h rfl (by rw [ex]; omega) (by rw [ey]; omega) (Or.inl (by rw [ex]; omega)) (Or.inl (by rw [ey]; omega))
theorem JU {t : Trm} (h : Fine t) : Fine (jM t) := by
 have p0 := h.p0
 have p1 := h.p1
 have p2 := h.p2
 unfold jM
 refine xX h rfl (Int.le_refl 0) ?_ (Or.inr rfl) ?_
 ·show 0 <= (if t.cur.org = true then t.top else 0); split <;> omega
 ·show (if t.cur.org = true then t.top else 0) < t.h \/ (if t.cur.org = true then t.top else 0) = 0; split <;> omega
theorem JV {t : Trm} (h : Fine t) (p : zm t) (x : Int) (x0 : 0 <= x) : Fine (qd t x) := by
 have := p.1
 unfold qd
 split
 ·exact jC (jh h _ (by omega) (by omega)) _
 ·exact jh h _ x0 (by omega)
theorem JW {t : Trm} (h : Fine t) (r : Int) : Fine (qT t r) := by
 have x0 := h.x0
 have cx := h.cx
 have h0 : Fine { t with opn := -1 } := qX h _
 unfold qT
 simp only
 by_cases c : t.w * t.h = 0
 ·rw [if_pos c]; exact qX h _
 ·rw [if_neg c]
  have p := h.some c
  repeat' split
  ·exact jC (jh h0 _ (by show 0 <= max 0 (t.cur.x - 1); omega) (by show max 0 (t.cur.x - 1) < t.w \/ max 0 (t.cur.x - 1) = 0; omega)) _
  ·exact jC (JT h0 1) _
  ·exact jC (vR h0 p) _
  ·exact jC (jh h0 0 (Int.le_refl 0) (Or.inr rfl)) _
  ·exact qX h _
theorem width_nn (s : ByteArray) : 0 <= zo s := by
 unfold zo
 have q : ∀ c ∈ qk s, 0 <= c.2 := fun c hc => by have := (JR s c hc).2; omega
 generalize qk s = l at *
 induction l with
 | nil => exact Int.le_refl 0
 | cons a r ih =>
  have a1 := q a (by simp)
  have a2 := ih (fun x hx => q x (by simp [hx]))
  simp only [List.map_cons, List.sum_cons]
  omega
theorem JY {t : Trm} (h : Fine t) (p : zm t) (s : ByteArray) : Fine (zQ t s) := by
 have n0 := width_nn s
 unfold zQ
 simp only
 have h0 : Fine { t with opn := -1 } := qX h _
 have d0 : Dim t { t with opn := -1 } := ⟨rfl, rfl⟩
 split
 ·exact h0
 ·have h1 : Fine (if ({ t with opn := -1 } : Trm).pend = true then zy { t with opn := -1 } else { t with opn := -1 }) /\ Dim t (if ({ t with opn := -1 } : Trm).pend = true then zy { t with opn := -1 } else { t with opn := -1 }) := by
   split
   ·exact ⟨xY h0 p, d0.trans (j8 _)⟩
   ·exact ⟨h0, d0⟩
  generalize (if ({ t with opn := -1 } : Trm).pend = true then zy { t with opn := -1 } else { t with opn := -1 }) = t1 at *
  obtain ⟨h1, d1⟩ := h1
  split
  ·exact h1
  ·have h2 : Fine (if t1.w < t1.cur.x + zo s then zy t1 else t1) /\ Dim t (if t1.w < t1.cur.x + zo s then zy t1 else t1) := by
    split
    ·exact ⟨xY h1 (xq d1 p), d1.trans (j8 _)⟩
    ·exact ⟨h1, d1⟩
   generalize (if t1.w < t1.cur.x + zo s then zy t1 else t1) = t2 at *
   obtain ⟨h2, d2⟩ := h2
   have h3 : Fine (if t2.ins = true then zH t2 (zo s) else t2) /\ Dim t (if t2.ins = true then zH t2 (zo s) else t2) := by
    split
    ·exact ⟨h2.cw (kW _ _ h2 (xq d2 p)), d2.trans (JG _ _)⟩
    ·exact ⟨h2, d2⟩
   generalize (if t2.ins = true then zH t2 (zo s) else t2) = t3 at *
   obtain ⟨h3, d3⟩ := h3
   have h4 := qX h3 (t3.cur.y * t3.w + t3.cur.x)
   have c := jI { t3 with opn := t3.cur.y * t3.w + t3.cur.x } t3.cur.x t3.cur.y s (zo s) t3.cur.st
   have x0 := h3.x0
   exact JV (h4.cw c) (c.some (xq d3 p)) _ (by show 0 <= t3.cur.x + zo s; omega)
theorem zaY {t : Trm} (h : Fine t) (p : zm t) (s : ByteArray) : Fine (qe t s) := by
 unfold qe
 split
 ·split
  ·simp only
   split
   ·exact h.cw (jI _ _ _ _ _ _)
   ·split
    ·have q : 0 <= t.opn % t.w := Int.emod_nonneg _ (by have := p.1; omega)
     exact JV (h.cw (jI _ _ _ _ _ _)) ((jI _ _ _ _ _ _).some p) _ (by omega)
    ·exact h
  ·exact JY h p s
 ·exact JY h p s
theorem xZ {t : Trm} (h : Fine t) (c : 0 < t.w * t.h) : zm t := h.some (by omega)
theorem JZ {t : Trm} (h : Fine t) (r : Int) : Fine (zY t r) := by
 unfold zY
 split
 ·exact h.still rfl rfl rfl
 ·split
  ·exact JW h r
  ·split
   ·rename_i c; exact zaY h (xZ h c) _
   ·exact h
theorem Z1 : ∀ (l : List Int) {t : Trm}, Fine t -> Fine (qg t l)
 | [], t, h => h
 | r :: l, t, h => Z1 l (t := zY t r) (JZ h r)
theorem Z2 {t : Trm} (h : Fine t) (b : Int) : Fine (qL t b) := by
 unfold qL
 exact Z1 _ (h.still rfl rfl rfl)
theorem Z3 {t : Trm} (h : Fine t) (s : ByteArray) : Fine (qw t s) := by
 unfold qw
 split
 ·exact h.still rfl rfl rfl
 ·exact h
theorem zaZ {t : Trm} (h : Fine t) (k : Int) : Fine (qV t k) := by
 unfold qV
 split
 ·exact Z3 h _
 ·split
  ·exact Z3 h _
  ·exact h
theorem J0 {t : Trm} (h : Fine t) (u : Trm) (e : u = { t with cells := t.away, away := t.cells, wrt := List.replicate t.wrt.length true, pend := u.pend, alt := u.alt, sav := u.sav }) : Fine u := by
 rw [e]
 exact ⟨h.w0, h.w1, h.h0, h.h1, h.ar, h.al, h.cl, by show ((List.replicate t.wrt.length true).length : Int) = _; rw [List.length_replicate]; exact h.wl, h.sl, h.x0, h.y0, h.cx, h.cy, h.p0, h.p1, h.p2⟩
theorem za0 {t : Trm} (h : Fine t) (k : Int) (on : Bool) : Fine (qf t k on) := by
 unfold qf
 simp only
 split
 ·exact jC (JU (t := { t with cur := { t.cur with org := on } }) (h.still rfl rfl rfl)) _
 ·split
  ·exact h.still rfl rfl rfl
  ·split
   ·exact h.still rfl rfl rfl
   ·split
    ·split
     ·exact h.still rfl rfl rfl
     ·split
      ·exact (J0 h _ rfl).cw (js _ _ _)
      ·exact vT (J0 h _ rfl)
    ·exact h
theorem Z4 (on : Bool) : ∀ (l : List Int) {t : Trm}, Fine t -> Fine (qq t on l)
 | [], t, h => h
 | k :: l, t, h => Z4 on l (za0 h k on)
theorem fine_up {t : Trm} (h : Fine t) (p : zm t) (k : Int) (k1 : 0 <= k) : Fine (upT t k) := by
 have := h.y0
 have := h.cy
 have := h.p0
 have := p.2
 unfold upT
 refine kX h _ ?_ ?_ <;> split <;> omega
theorem za1 {t : Trm} (h : Fine t) (p : zm t) (k : Int) (k1 : 0 <= k) : Fine (xT t k) := by
 have := h.y0
 have := h.cy
 have := h.p2
 have := p.2
 unfold xT
 refine kX h _ ?_ ?_ <;> split <;> omega
theorem J1 {t : Trm} (h : Fine t) (p : zm t) (k : Int) (k1 : 1 <= k) : Fine (rowT t k) := by
 have := h.p0
 have := h.p1
 have := h.p2
 have := p.2
 unfold rowT
 refine kX h _ ?_ ?_ <;> split <;> omega
theorem J4 {t : Trm} (h : Fine t) (p : zm t) (k : Int) (k1 : 1 <= k) : Fine (xU t k) := by
 have := p.1
 unfold xU
 exact jh h _ (by omega) (by omega)
theorem za2 {t : Trm} (h : Fine t) (n : Int) : Fine (qx t n) := by
 unfold qx
 split
 ·exact jh (h.cw (jP _ _ _ _)) 0 (Int.le_refl 0) (Or.inr rfl)
 ·exact h
theorem Z5 (n : Nums) (i : Nat) : 1 <= n.count i := by unfold Nums.count; split <;> omega
theorem za3 {t : Trm} (h : Fine t) (p : zm t) (n : Nums) : Fine (jg t n) := by
 have c1 := Z5 n 0
 unfold jg
 simp only
 have b1 : (if 1 < n.list.length /\ 0 < n.list.getD 1 0 then min (n.list.getD 1 0) t.h else t.h) <= t.h := by split <;> omega
 generalize (if 1 < n.list.length /\ 0 < n.list.getD 1 0 then min (n.list.getD 1 0) t.h else t.h) = b at *
 split
 ·exact JU ⟨h.w0, h.w1, h.h0, h.h1, h.ar, h.cl, h.al, h.wl, h.sl, h.x0, h.y0, h.cx, h.cy, by show 0 <= n.count 0 - 1; omega, Or.inl (by show n.count 0 - 1 <= b - 1; omega), by show b - 1 < t.h; omega⟩
 ·exact h
theorem za4 {t : Trm} (h : Fine t) (k : Int) : Fine (jN t k) := by
 unfold jN
 repeat' split
 all_goals first
 | exact h.cw (xW _ _ _)
 | exact h
theorem za5 {t : Trm} (h : Fine t) (k : Int) : Fine (jO t k) := by
 unfold jO
 repeat' split
 all_goals first
 | exact h.cw (xW _ _ _)
 | exact h
theorem Z7? {t : Trm} (h : Fine t) (p : zm t) (b : Int) (n : Nums) : ∀ t', actT? t b n = some t' -> Fine t' := by
 have k := Z5 n 0
 have k2 := Z5 n 1
 have x0 := h.x0
 have cx := h.cx
 have w0 := p.1
 have up := fine_up h p (n.count 0) (by omega)
 have dn := za1 h p (n.count 0) (by omega)
 unfold actT?
 simp only
 repeat (refine ZR (P := Fine) (by first | exact up | exact dn | exact jh h _ (by omega) (by omega) | exact jh up 0 (Int.le_refl 0) (Or.inr rfl) | exact jh dn 0 (Int.le_refl 0) (Or.inr rfl) | exact J4 h p _ k | exact J4 (J1 h p _ k) p _ k2 | exact vS h _ _ | exact za5 h _ | exact za4 h _ | exact za2 h _ | exact h.cw (kW _ _ h p) | exact h.cw (jP _ _ _ _) | exact h.cw (xW _ _ _) | exact J1 h p _ k | exact za3 h p n | exact vT h) ?_)
 intro t' h
 cases h
theorem Z6 {t : Trm} (h : Fine t) (l : List Bool) (e : l.length = t.stops.length) : Fine { t with stops := l } :=
 ⟨h.w0, h.w1, h.h0, h.h1, h.ar, h.cl, h.al, h.wl, by show (l.length : Int) = _; rw [e]; exact h.sl, h.x0, h.y0, h.cx, h.cy, h.p0, h.p1, h.p2⟩
theorem Z7 {t : Trm} (h : Fine t) (p : zm t) (b : Int) (n : Nums) : Fine (actT t b n) := by
 unfold actT
 split
 ·split
  ·exact Z6 h _ List.length_set
  ·split
   ·exact Z6 h _ List.length_replicate
   ·exact h
 ·split
  ·exact h.still rfl rfl rfl
  ·cases e : actT? t b n with
   | none => exact h
   | some t' => exact jC (Z7? h p b n t' e) _
theorem za6 {t : Trm} (h : Fine t) (b : Int) : Fine (jy t b) := by
 have h0 := qX h (-1)
 unfold jy
 simp only
 repeat' split
 all_goals first
 | exact h0
 | exact Z4 _ _ h0
 | exact h.still rfl rfl rfl
 | exact zaZ h0 _
 | exact Z3 h0 _
 | (rename_i c; exact Z7 h0 (xZ h0 c) _ _)
theorem J5 {t : Trm} (h : Fine t) : Fine (qy t) := by
 unfold qy
 simp only
 split
 ·exact h.still rfl rfl rfl
 ·exact h
theorem za7 {t : Trm} (h : Fine t) (b : Int) : Fine (qE t b) := by
 unfold qE
 repeat' split
 all_goals first
 | exact h
 | exact h.still rfl rfl rfl
 | exact (J5 h).still rfl rfl rfl
theorem za8 (w : Int) (h : 0 <= w) : ((kT w).length : Int) = w := by unfold kT; rw [List.length_map, List.length_range]; omega
theorem Z8 (w h : Int) (w0 : 0 <= w) (w1 : w <= 4096) (h0 : 0 <= h) (h1 : h <= 4096) (ar : w * h <= 1048576) : Fine (newV w h) := by
 have p := Int.mul_nonneg w0 h0
 have l : ∀ {α : Type} (x : α), ((List.replicate (w * h).toNat x).length : Int) = w * h := fun x => by rw [List.length_replicate]; omega
 exact ⟨w0, w1, h0, h1, ar, l _, l _, l _, za8 w w0, Int.le_refl 0, Int.le_refl 0, Or.inr rfl, Or.inr rfl, Int.le_refl 0, by show 0 <= h - 1 \/ h = 0 /\ (0 : Int) = 0; omega, by show h - 1 < h; omega⟩
theorem J6 {t : Trm} (h : Fine t) : Fine (allW t) := h.cw ⟨rfl, rfl, List.length_replicate⟩
theorem za9 {t : Trm} (h : Fine t) (b : Int) : Fine (jz t b) := by
 have key : ∀ u : Trm, Fine u -> Fine (if u.w * u.h = 0 then u else if b = 69 then { (zD (setX u 0)) with pend := false } else if b = 68 then { (zD u) with pend := false } else if b = 77 then { (qp u) with pend := false } else if b = 72 then { u with stops := u.stops.set u.cur.x.toNat true } else u) := by
  intro u hu
  by_cases c : u.w * u.h = 0
  ·rw [if_pos c]; exact hu
  ·rw [if_neg c]
   have p := hu.some c
   repeat' split
   ·exact jC (vR (jh hu 0 (Int.le_refl 0) (Or.inr rfl)) p) _
   ·exact jC (vR hu p) _
   ·exact jC (zaX hu p) _
   ·exact Z6 hu _ List.length_set
   ·exact hu
 unfold jz
 simp only
 refine key _ ?_
 repeat' split
 all_goals first
 | exact h.still rfl rfl rfl
 | exact (J6 (Z8 t.w t.h h.w0 h.w1 h.h0 h.h1 h.ar)).still rfl rfl rfl
 | exact vT (h.still rfl rfl rfl)
theorem Z9 {t : Trm} (h : Fine t) (b : Int) : Fine (zu t b) := by
 unfold zu
 repeat' split
 ·exact h.still rfl rfl rfl
 ·exact JW h b
 ·exact h
 ·exact Z2 (t := { t with state := 0 }) (h.still rfl rfl rfl) b
 ·exact h.still rfl rfl rfl
 ·exact za6 (t := { t with state := 0 }) (h.still rfl rfl rfl) b
 ·exact h.still rfl rfl rfl
 ·exact h.still rfl rfl rfl
 ·exact za9 h b
theorem zba {t : Trm} (h : Fine t) (b : Int) : Fine (zA t b) := by
 unfold zA
 repeat' split
 ·exact Z2 h b
 ·exact h.still rfl rfl rfl
 ·exact Z9 (t := { t with state := 1 }) (h.still rfl rfl rfl) b
 ·exact (J5 h).still rfl rfl rfl
 ·exact h.still rfl rfl rfl
 ·exact za7 h b
 ·exact Z9 h b
end Go.Proofs.YtmaofighbpnbiaaGreatDoor
/- What every terminal keeps: the open cell lies within (plain). -/
namespace Go.Proofs.YtmaofighbpnbiaaGreatDoor
open Go.RowKit
set_option linter.unusedSimpArgs false
set_option linter.unusedVariables false
theorem J7 {s : ByteArray} {n : Int} (h : oneB s = some n) : s.size <= 64 /\ (n = 0 \/ n = 1 \/ n = 2) := by
 unfold oneB at h
 have m := JR s
 split at h
 ·rename_i c e
  rw [e] at m
  have := m c (by simp)
  split at h
  ·rename_i e2
   cases h
   rw [e2] at this
   exact this
  ·cases h
 ·cases h
structure OpnAt (t : Trm) : Prop where
 lo : 0 <= t.opn
 hi : t.opn < t.w * t.h
 wide : (t.cell t.opn.toNat).wide = 0 \/ (t.cell t.opn.toNat).wide = 1 \/ (t.cell t.opn.toNat).wide = 2
 fits : t.opn % t.w + (t.cell t.opn.toNat).wide <= t.w
 text : (t.cell t.opn.toNat).text.size <= 64
def qY (t : Trm) : Prop := t.opn = -1 \/ OpnAt t
def RestOk (t : Trm) : Prop := t.state ≠ 0 -> t.opn = -1
structure Ho (t t' : Trm) : Prop where
 held : t'.held = t.held
 reps : t.reps.size <= 65536 -> t'.reps.size <= 65536
 opn : t'.opn = t.opn \/ t'.opn = -1
theorem Ho.refl (t : Trm) : Ho t t := ⟨rfl, id, Or.inl rfl⟩
theorem Ho.trans {a b c : Trm} (h : Ho a b) (k : Ho b c) : Ho a c := by
 refine ⟨k.1.trans h.1, fun x => k.2 (h.2 x), ?_⟩
 rcases k.3 with e | e
 ·rcases h.3 with f | f
  ·exact Or.inl (e.trans f)
  ·exact Or.inr (e.trans f)
 ·exact Or.inr e
theorem Cw.ho {t t' : Trm} (h : Cw t t') : Ho t t' := ⟨h.held, fun x => by rw [h.reps]; exact x, Or.inl h.opn⟩
theorem qD {t t' : Trm} (e1 : t'.held = t.held) (e2 : t'.reps = t.reps) (e3 : t'.opn = t.opn \/ t'.opn = -1) : Ho t t' := ⟨e1, fun x => by rw [e2]; exact x, e3⟩
theorem kY (t : Trm) : Ho t (zD t) := by
 unfold zD
 split
 ·exact (jP _ _ _ _).ho
 ·exact qD rfl rfl (Or.inl rfl)
theorem zbb (t : Trm) : Ho t (qp t) := by
 unfold qp
 split
 ·exact (jP _ _ _ _).ho
 ·exact qD rfl rfl (Or.inl rfl)
theorem J8 (t : Trm) : Ho t (zy t) := Ho.trans (b := setX { t with pend := false } 0) (qD rfl rfl (Or.inl rfl)) (kY _)
theorem ho_shift {t : Trm} (h : Fine t) (p : zm t) (n : Int) : Ho t (zH t n) := (kW t n h p).ho
theorem J9 (t : Trm) (x : Int) : Ho t (qd t x) := by unfold qd; split <;> exact qD rfl rfl (Or.inl rfl)
theorem Xa (t : Trm) (r : Int) : Ho t (qT t r) := by
 have h0 : Ho t { t with opn := -1 } := qD rfl rfl (Or.inr rfl)
 unfold qT
 simp only
 repeat' split
 all_goals first
 | exact h0
 | exact qD rfl rfl (Or.inr rfl)
 | exact (h0.trans (kY _)).trans (qD rfl rfl (Or.inl rfl))
theorem zbc (t : Trm) (r : Int) : (qT t r).opn = -1 := by
 have q := kY { t with opn := -1 }
 unfold qT
 simp only
 repeat' split
 all_goals first
 | rfl
 | (show (zD { t with opn := -1 }).opn = -1; exact q.opn.elim id id)
theorem Qa (t : Trm) (s : ByteArray) : Ho t (qw t s) := by
 unfold qw
 split
 ·rename_i c
  refine ⟨rfl, fun _ => ?_, Or.inl rfl⟩
  show (t.reps ++ ((⟨#[27, 91]⟩ : ByteArray) ++ s)).size <= 65536
  rw [ByteArray.size_append, ByteArray.size_append]
  have : (⟨#[27, 91]⟩ : ByteArray).size = 2 := rfl
  omega
 ·exact Ho.refl t
theorem zbd (t : Trm) (k : Int) : Ho t (qV t k) := by
 unfold qV
 split
 ·exact Qa _ _
 ·split
  ·exact Qa _ _
  ·exact Ho.refl t
theorem ho_mode (t : Trm) (k : Int) (on : Bool) : Ho t (qf t k on) := by
 unfold qf
 simp only
 repeat' split
 all_goals first
 | exact qD rfl rfl (Or.inl rfl)
 | exact (Ho.trans (b := { (allW { t with pend := false, alt := on, cells := t.away, away := t.cells }) with sav := t.cur }) (qD rfl rfl (Or.inl rfl)) (js _ _ _).ho)
theorem Xb (on : Bool) : ∀ (l : List Int) (t : Trm), Ho t (qq t on l)
 | [], t => Ho.refl t
 | k :: l, t => (ho_mode t k on).trans (Xb on l _)
theorem Xc (t : Trm) (d : Int) : ∀ n, Ho t (jf t d n)
 | 0 => Ho.refl t
 | n + 1 => (Xc t d n).trans (qD rfl rfl (Or.inl rfl))
theorem ho_lines (t : Trm) (n : Int) : Ho t (qx t n) := by
 unfold qx
 split
 ·exact (jP _ _ _ _).ho.trans (qD rfl rfl (Or.inl rfl))
 ·exact Ho.refl t
theorem zbe (t : Trm) (k : Int) : Ho t (jN t k) := by
 unfold jN
 repeat' split
 all_goals first
 | exact (xW _ _ _).ho
 | exact Ho.refl t
theorem zbf (t : Trm) (k : Int) : Ho t (jO t k) := by
 unfold jO
 repeat' split
 all_goals first
 | exact (xW _ _ _).ho
 | exact Ho.refl t
theorem zbg (t : Trm) (n : Nums) : Ho t (jg t n) := by
 unfold jg
 simp only
 repeat' split
 all_goals exact qD rfl rfl (Or.inl rfl)
theorem Qb? {t : Trm} (h : Fine t) (p : zm t) (b : Int) (n : Nums) : ∀ t', actT? t b n = some t' -> Ho t t' := by
 unfold actT?
 simp only
 repeat (refine ZR (P := Ho t) (by first | exact qD rfl rfl (Or.inl rfl) | exact Xc _ _ _ | exact zbf _ _ | exact zbe _ _ | exact ho_lines _ _ | exact ho_shift h p _ | exact (jP _ _ _ _).ho | exact (xW _ _ _).ho | exact zbg _ _) ?_)
 intro t' h
 cases h
theorem Qb {t : Trm} (h : Fine t) (p : zm t) (b : Int) (n : Nums) : Ho t (actT t b n) := by
 unfold actT
 split
 ·repeat' split
  all_goals exact qD rfl rfl (Or.inl rfl)
 ·split
  ·exact qD rfl rfl (Or.inl rfl)
  ·cases e : actT? t b n with
   | none => exact Ho.refl t
   | some t' => exact (Qb? h p b n t' e).trans (qD rfl rfl (Or.inl rfl))
theorem zbh {t : Trm} (h : Fine t) (b : Int) : Ho { t with opn := -1 } (jy t b) := by
 have h0 := qX h (-1)
 unfold jy
 simp only
 repeat' split
 all_goals first
 | exact Ho.refl _
 | exact Xb _ _ _
 | exact qD rfl rfl (Or.inl rfl)
 | exact zbd _ _
 | exact Qa _ _
 | (rename_i c; exact Qb h0 (xZ h0 c) _ _)
theorem Ho.off {t t' : Trm} (h : Ho t t') (e : t.opn = -1) : t'.opn = -1 := by
 rcases h.opn with f | f
 ·exact f.trans e
 ·exact f
theorem Xd (t : Trm) (i : Nat) (c : Cel) (h : i < t.cells.length) : (putT t i c).cell i = c := by
 unfold putT Trm.cell
 simp only
 rw [List.getD_eq_getElem?_getD, List.getElem?_set_self h]
 rfl
theorem Xe (t : Trm) (i j : Nat) (c : Cel) (h : j ≠ i) : (putT t j c).cell i = t.cell i := by
 unfold putT Trm.cell
 simp only
 rw [List.getD_eq_getElem?_getD, List.getElem?_set_ne h, <- List.getD_eq_getElem?_getD]
theorem zbi (t : Trm) (x y : Int) (s : ByteArray) (n : Int) (st : Sty) (h : (y * t.w + x).toNat < t.cells.length) : (zG t x y s n st).cell (y * t.w + x).toNat = ⟨s, n, st⟩ := by
 have c := (qs t x y).trans (qs (zg t x y) (x + n) y)
 have hl := c.cl
 unfold zG
 simp only
 generalize zg (zg t x y) (x + n) y = u at *
 split
 ·rw [Xe _ _ _ _ (by omega), Xd _ _ _ (by omega)]
 ·rw [Xd _ _ _ (by omega)]
theorem at_row {w x : Int} (y : Int) (x0 : 0 <= x) (x1 : x < w) : (y * w + x) % w = x := by
 rw [Int.add_comm, Int.add_mul_emod_self_right]
 exact Int.emod_eq_of_lt x0 x1
theorem Xf (t : Trm) (x : Int) : (qd t x).w = t.w /\ (qd t x).h = t.h /\ (qd t x).opn = t.opn /\ (qd t x).cells = t.cells := by
 unfold qd
 split <;> exact ⟨rfl, rfl, rfl, rfl⟩
theorem OpnAt.same {t t' : Trm} (h : OpnAt t) (e : t'.w = t.w /\ t'.h = t.h /\ t'.opn = t.opn /\ t'.cells = t.cells) : OpnAt t' := by
 obtain ⟨e1, e2, e3, e4⟩ := e
 have ec : ∀ i, t'.cell i = t.cell i := fun i => by unfold Trm.cell; rw [e4]
 exact ⟨by rw [e3]; exact h.lo, by rw [e3, e1, e2]; exact h.hi, by rw [e3, ec]; exact h.wide, by rw [e3, ec, e1]; exact h.fits, by rw [e3, ec]; exact h.text⟩
theorem Qc {t : Trm} (h : Fine t) {x y : Int} (x0 : 0 <= x) (y0 : 0 <= y) (y1 : y < t.h) (s : ByteArray) (n : Int) (st : Sty) (n2 : n = 0 \/ n = 1 \/ n = 2) (x1 : x < t.w) (xn : x + n <= t.w) (hs : s.size <= 64) (ho : t.opn = y * t.w + x) : OpnAt (zG t x y s n st) := by
 have c := jI t x y s n st
 have r := h.row y0 y1
 have cl := h.cl
 have wc := zbi t x y s n st (by omega)
 have eo : (zG t x y s n st).opn = y * t.w + x := c.opn.trans ho
 refine ⟨by rw [eo]; omega, by rw [eo, c.w, c.h]; omega, by rw [eo, wc]; exact n2, ?_, by rw [eo, wc]; exact hs⟩
 rw [eo, wc, c.w, at_row y x0 x1]
 exact xn
theorem Xg {t : Trm} (h : Fine t) (p : zm t) (o : OpnAt t) : 0 <= t.opn % t.w /\ t.opn % t.w < t.w /\ 0 <= t.opn / t.w /\ t.opn / t.w < t.h /\ t.opn = t.opn / t.w * t.w + t.opn % t.w := by
 have a := p.1
 have lo := o.lo
 have hi := o.hi
 refine ⟨Int.emod_nonneg _ (by omega), Int.emod_lt_of_pos _ a, Int.ediv_nonneg lo (by omega), ?_, ?_⟩
 ·exact Int.ediv_lt_of_lt_mul a (by rw [Int.mul_comm]; exact hi)
 ·have := Int.mul_ediv_add_emod t.opn t.w
  rw [Int.mul_comm] at this
  omega
theorem zbj {t : Trm} (h : Fine t) (p : zm t) (s : ByteArray) (hs : s.size <= 64) (n2 : zo s = 0 \/ zo s = 1 \/ zo s = 2) : qY (zQ t s) /\ Ho { t with opn := -1 } { zQ t s with opn := -1 } := by
 unfold zQ
 simp only
 have h0 : Fine { t with opn := -1 } := qX h _
 have d0 : Dim t { t with opn := -1 } := ⟨rfl, rfl⟩
 split
 ·exact ⟨Or.inl rfl, Ho.refl _⟩
 ·rename_i nw
  have h1 : Fine (if ({ t with opn := -1 } : Trm).pend = true then zy { t with opn := -1 } else { t with opn := -1 }) /\ Dim t (if ({ t with opn := -1 } : Trm).pend = true then zy { t with opn := -1 } else { t with opn := -1 }) /\ Ho { t with opn := -1 } (if ({ t with opn := -1 } : Trm).pend = true then zy { t with opn := -1 } else { t with opn := -1 }) := by
   split
   ·exact ⟨xY h0 p, d0.trans (j8 _), J8 _⟩
   ·exact ⟨h0, d0, Ho.refl _⟩
  generalize (if ({ t with opn := -1 } : Trm).pend = true then zy { t with opn := -1 } else { t with opn := -1 }) = t1 at *
  obtain ⟨h1, d1, o1⟩ := h1
  split
  ·exact ⟨Or.inl (o1.off rfl), o1.trans (qD rfl rfl (Or.inr rfl))⟩
  ·have h2 : Fine (if t1.w < t1.cur.x + zo s then zy t1 else t1) /\ Dim t (if t1.w < t1.cur.x + zo s then zy t1 else t1) /\ Ho { t with opn := -1 } (if t1.w < t1.cur.x + zo s then zy t1 else t1) /\ (if t1.w < t1.cur.x + zo s then zy t1 else t1).cur.x + zo s <= (if t1.w < t1.cur.x + zo s then zy t1 else t1).w := by
    split
    ·have dn := j8 t1
     refine ⟨xY h1 (xq d1 p), d1.trans dn, o1.trans (J8 _), ?_⟩
     have ex : (zy t1).cur.x = 0 := by
      unfold zy zD
      split
      ·rw [(jP _ _ _ _).cur]; rfl
      ·rfl
     rw [ex, (d1.trans dn).1]
     omega
    ·exact ⟨h1, d1, o1, by omega⟩
   generalize (if t1.w < t1.cur.x + zo s then zy t1 else t1) = t2 at *
   obtain ⟨h2, d2, o2, f2⟩ := h2
   have h3 : Fine (if t2.ins = true then zH t2 (zo s) else t2) /\ Dim t (if t2.ins = true then zH t2 (zo s) else t2) /\ Ho { t with opn := -1 } (if t2.ins = true then zH t2 (zo s) else t2) /\ (if t2.ins = true then zH t2 (zo s) else t2).cur.x + zo s <= (if t2.ins = true then zH t2 (zo s) else t2).w := by
    split
    ·have c := kW t2 (zo s) h2 (xq d2 p)
     exact ⟨h2.cw c, d2.trans (JG _ _), o2.trans c.ho, by rw [c.cur, c.w]; exact f2⟩
    ·exact ⟨h2, d2, o2, f2⟩
   generalize (if t2.ins = true then zH t2 (zo s) else t2) = t3 at *
   obtain ⟨h3, d3, o3, f3⟩ := h3
   have p3 := xq d3 p
   have h4 := qX h3 (t3.cur.y * t3.w + t3.cur.x)
   have c := jI { t3 with opn := t3.cur.y * t3.w + t3.cur.x } t3.cur.x t3.cur.y s (zo s) t3.cur.st
   have x0 := h3.x0
   have := p3.1
   have := p3.2
   have cx := h3.cx
   have cy := h3.cy
   refine ⟨Or.inr ((Qc h4 (x := t3.cur.x) (y := t3.cur.y) x0 h3.y0 (by show t3.cur.y < t3.h; omega) s (zo s) t3.cur.st n2 (by show t3.cur.x < t3.w; omega) f3 hs rfl).same (Xf _ _)), ?_⟩
   have s0 := J9 (zG { t3 with opn := t3.cur.y * t3.w + t3.cur.x } t3.cur.x t3.cur.y s (zo s) t3.cur.st) (t3.cur.x + zo s)
   exact ⟨(s0.held.trans c.held).trans o3.held, fun x => s0.reps (c.ho.reps (o3.reps x)), Or.inr rfl⟩
theorem zbk {t : Trm} (h : Fine t) (p : zm t) (o : qY t) (s : ByteArray) (hs : s.size <= 64) (n2 : zo s = 0 \/ zo s = 1 \/ zo s = 2) : qY (qe t s) /\ Ho { t with opn := -1 } { qe t s with opn := -1 } := by
  have fr := zbj h p s hs n2
  unfold qe
  split
  · rename_i c
    have oa : OpnAt t := by rcases o with e | e; · omega
                            · exact e
    obtain ⟨x0, x1, y0, y1, e⟩ := Xg h p oa
    split
    · rename_i n eo
      obtain ⟨q1, q2⟩ := J7 eo
      simp only
      split
      · rename_i en
        have cw := jI t (t.opn % t.w) (t.opn / t.w) ((t.cell t.opn.toNat).text ++ s) n (t.cell t.opn.toNat).st
        exact ⟨Or.inr (Qc h x0 y0 y1 _ _ _ q2 x1 (by rw [en]; exact oa.fits) q1 e), ⟨cw.held, cw.ho.reps, Or.inr rfl⟩⟩
      · split
        · have cw := jI t (t.opn % t.w) (t.opn / t.w) ((t.cell t.opn.toNat).text ++ s) n (t.cell t.opn.toNat).st
          have s0 := J9 (zG t (t.opn % t.w) (t.opn / t.w) ((t.cell t.opn.toNat).text ++ s) n (t.cell t.opn.toNat).st) (t.opn % t.w + 2)
          exact ⟨Or.inr ((Qc h x0 y0 y1 _ _ _ q2 x1 (by omega) q1 e).same (Xf _ _)), ⟨s0.held.trans cw.held, fun x => s0.reps (cw.ho.reps x), Or.inr rfl⟩⟩
        · exact ⟨o, Ho.refl _⟩
    · exact fr
  · exact fr
end Go.Proofs.YtmaofighbpnbiaaGreatDoor
/- The bytes of a character are read back (plain). -/
namespace Go.Proofs.YtmaofighbpnbiaaGreatDoor
open Go.RowKit
set_option linter.unusedSimpArgs false
set_option linter.unusedVariables false
theorem kZ (l : List Int) : (barr l).size = l.length := by unfold barr; simp [ByteArray.size]
theorem byt_barr (l : List Int) (i : Nat) (h : i < l.length) (hr : ∀ b ∈ l, 0 <= b /\ b < 256) : byt (barr l) i = (l.getD i 0).toNat := by
 have h2 : i < (barr l).size := by rw [kZ]; exact h
 have m : l.getD i 0 ∈ l := by rw [List.getD_eq_getElem?_getD, List.getElem?_eq_getElem h]; exact List.getElem_mem h
 have r := hr _ m
 have e : (barr l)[i] = UInt8.ofNat (l.getD i 0).toNat := by
  show ((l.map fun n => UInt8.ofNat n.toNat).toArray)[i]'(by simpa using h) = _
  rw [List.getElem_toArray, List.getElem_map, List.getD_eq_getElem?_getD, List.getElem?_eq_getElem h]
  rfl
 unfold byt
 rw [xR _ _ h2, e, UInt8.toNat_ofNat']
 omega
theorem zbl (a b : List Int) : (barr (a ++ b)).extract a.length (barr (a ++ b)).size = barr b := by
 apply ByteArray.ext
 rw [kZ]
 unfold barr
 rw [ByteArray.data_extract]
 refine Array.ext (by simp) (fun i h1 h2 => ?_)
 simp
theorem dec_char (r : Int) (rest : List Int) (hr : ∀ b ∈ rest, 0 <= b /\ b < 256) : decB (barr (qj r ++ rest)) = ((zv r).toNat, (qj r).length) := by
 have rng : ∀ b ∈ qj r ++ rest, 0 <= b /\ b < 256 := fun b hb => by
  rcases List.mem_append.1 hb with m | m
  ·exact zau r b m
  ·exact hr b m
 have by_ := fun i (h : i < (qj r).length) => byt_barr (qj r ++ rest) i (by rw [List.length_append]; omega) rng
 have sz := kZ (qj r ++ rest)
 rw [List.length_append] at sz
 have cr := vJ r
 have ns : zv r < 55296 \/ 57343 < zv r := by unfold zv; split <;> omega
 unfold qj at by_ sz ⊢
 generalize zv r = c at *
 by_cases c1 : c < 128
 ·rw [if_pos c1] at by_ sz ⊢
  have b0 := by_ 0 (by simp)
  simp at b0
  unfold decB
  simp only [List.singleton_append] at b0 ⊢
  rw [b0]
  have l : ze c.toNat = (1, 0, 0) := by unfold ze; rw [if_pos (by omega)]
  rw [l]
  simp
 rw [if_neg c1] at by_ sz ⊢
 by_cases c2 : c < 2048
 ·rw [if_pos c2] at by_ sz ⊢
  have b0 := by_ 0 (by simp)
  have b1 := by_ 1 (by simp)
  simp at b0 b1
  simp only [List.cons_append, List.nil_append, List.length_cons, List.length_nil] at b0 b1 sz ⊢
  generalize barr ((192 + c / 64) :: (128 + c % 64) :: rest) = B at *
  have l : ze (byt B 0) = (2, 128, 191) := by rw [b0]; unfold ze; rw [if_neg (by omega), if_neg (by omega), if_pos (by omega)]
  unfold decB
  rw [l]
  simp only
  rw [if_neg (by omega), if_neg (by omega), qR _ _ _ _ _ _ _ (by omega) (by omega)]
  unfold goN
  rw [b0, b1]
  simp
  omega
 rw [if_neg c2] at by_ sz ⊢
 by_cases c3 : c < 65536
 ·rw [if_pos c3] at by_ sz ⊢
  have b0 := by_ 0 (by simp)
  have b1 := by_ 1 (by simp)
  have b2 := by_ 2 (by simp)
  simp at b0 b1 b2
  simp only [List.cons_append, List.nil_append, List.length_cons, List.length_nil] at b0 b1 b2 sz ⊢
  generalize barr ((224 + c / 4096) :: (128 + c / 64 % 64) :: (128 + c % 64) :: rest) = B at *
  have key : ∀ lo hi, ze (byt B 0) = (3, lo, hi) -> ¬ (byt B 1 < lo \/ hi < byt B 1) -> decB B = (c.toNat, 0 + 1 + 1 + 1) := by
   intro lo hi l ok
   unfold decB
   rw [l]
   simp only
   rw [if_neg (by omega), if_neg (by omega), qR _ _ _ _ _ _ _ (by omega) ok, qR _ _ _ _ _ _ _ (by omega) (show ¬ (byt B 2 < 128 \/ 191 < byt B 2) by omega)]
   unfold goN
   rw [b0, b1, b2]
   simp
   omega
  by_cases z : byt B 0 = 224
  ·exact key 160 191 (by rw [z]; rfl) (by omega)
  ·by_cases z2 : byt B 0 = 237
   ·exact key 128 159 (by rw [z2]; rfl) (by omega)
   ·exact key 128 191 (by unfold ze; rw [if_neg (by omega), if_neg (by omega), if_neg (by omega), if_neg z, if_neg z2, if_pos (by omega)]) (by omega)
 ·rw [if_neg c3] at by_ sz ⊢
  have b0 := by_ 0 (by simp)
  have b1 := by_ 1 (by simp)
  have b2 := by_ 2 (by simp)
  have b3 := by_ 3 (by simp)
  simp at b0 b1 b2 b3
  simp only [List.cons_append, List.nil_append, List.length_cons, List.length_nil] at b0 b1 b2 b3 sz ⊢
  generalize barr ((240 + c / 262144) :: (128 + c / 4096 % 64) :: (128 + c / 64 % 64) :: (128 + c % 64) :: rest) = B at *
  have key : ∀ lo hi, ze (byt B 0) = (4, lo, hi) -> ¬ (byt B 1 < lo \/ hi < byt B 1) -> decB B = (c.toNat, 0 + 1 + 1 + 1 + 1) := by
   intro lo hi l ok
   unfold decB
   rw [l]
   simp only
   rw [if_neg (by omega), if_neg (by omega), qR _ _ _ _ _ _ _ (by omega) ok, qR _ _ _ _ _ _ _ (by omega) (show ¬ (byt B 2 < 128 \/ 191 < byt B 2) by omega), qR _ _ _ _ _ _ _ (by omega) (show ¬ (byt B 3 < 128 \/ 191 < byt B 3) by omega)]
   unfold goN
   rw [b0, b1, b2, b3]
   simp
   omega
  by_cases z : byt B 0 = 240
  ·exact key 144 191 (by rw [z]; rfl) (by omega)
  ·by_cases z2 : byt B 0 = 244
   ·exact key 128 143 (by rw [z2]; rfl) (by omega)
   ·exact key 128 191 (by unfold ze; rw [if_neg (by omega), if_neg (by omega), if_neg (by omega), if_neg (by omega), if_neg (by omega), if_neg (by omega), if_neg z, if_pos (by omega)]) (by omega)
theorem zbm (r : Int) (rest : List Int) (hr : ∀ b ∈ rest, 0 <= b /\ b < 256) : zF (barr (qj r ++ rest)) = zv r :: zF (barr rest) := by
 have l := ZE r
 have cr := vJ r
 rw [vI _ (by rw [kZ, List.length_append]; omega), dec_char r rest hr]
 simp only
 rw [zbl]
 congr 1
 omega
theorem zbn (r : Int) : ∃ x u, qk (qU r) = [(x, u)] /\ (u = 0 \/ u = 1 \/ u = 2) := by
 have e : zF (qU r) = [zv r] := by
  have := zbm r [] (by simp)
  rw [List.append_nil] at this
  exact this
 have f := xG [zv r] (by simp)
 have f1 : zr [zv r] = 1 := by have := f.2.1; simp at this; omega
 unfold qk
 rw [e, vL _ (by simp), f1]
 refine ⟨_, jY ([zv r].take 1), rfl, JD _⟩
theorem Xh (r : Int) : zo (qU r) = 0 \/ zo (qU r) = 1 \/ zo (qU r) = 2 := by
 obtain ⟨x, u, e, h⟩ := zbn r
 unfold zo
 rw [e]
 simpa using h
theorem Xi (r : Int) : (qU r).size <= 64 := by
 have := ZE r
 unfold qU
 rw [kZ]
 omega
/-! bytes that come one by one -/
theorem go_push' (k : ByteArray) (b : Int) (hb : 0 <= b /\ b < 256) (n : Nat) : ∀ f lo hi r i, i + f = n -> goO k f lo hi i = true -> i <= k.size -> goO (zp k b) f lo hi i = true \/ (goN (zp k b) n f lo hi r i).2 = k.size + 1 \/ goN (zp k b) n f lo hi r i = (65533, k.size) := by
 intro f
 induction f with
 | zero => intro lo hi r i hn h; unfold goO at h; cases h
 | succ f ih =>
  intro lo hi r i hn h h1
  unfold goO at h
  by_cases e : i = k.size
  ·subst e
   have bn := push_new k b hb
   have ne : ¬ k.size = (zp k b).size := by rw [jA]; omega
   by_cases bad : byt (zp k b) k.size < lo \/ hi < byt (zp k b) k.size
   ·exact Or.inr (Or.inr (xh _ _ _ _ _ _ _ ne bad))
   ·rw [qR _ _ _ _ _ _ _ ne bad]
    cases f with
    | zero => right; left; unfold goN; show n = k.size + 1; omega
    | succ f =>
     left
     unfold goO
     rw [if_neg ne, if_neg bad]
     unfold goO
     rw [if_pos (by rw [jA])]
  ·rw [if_neg e] at h
   have lt : i < k.size := by omega
   have bo := JE k b i lt
   have ne : ¬ i = (zp k b).size := by rw [jA]; omega
   by_cases bad : byt k i < lo \/ hi < byt k i
   ·rw [if_pos bad] at h; cases h
   ·rw [if_neg bad] at h
    rw [qR _ _ _ _ _ _ _ ne (by rw [bo]; exact bad)]
    have q := ih 128 191 (r * 64 + byt (zp k b) i % 64) (i + 1) (by omega) h (by omega)
    rcases q with q | q
    ·left
     unfold goO
     rw [if_neg ne, bo, if_neg bad]
     exact q
    ·exact Or.inr q
theorem Xj (f : Nat) : zL f zB = ([], zB) := by
 cases f with
 | zero => rfl
 | succ f => unfold zL; rw [if_pos (show zB.size = 0 from rfl)]
theorem vU (s : ByteArray) (k : Nat) (h : s.size <= k) : s.extract k s.size = zB := by
 apply ByteArray.ext
 rw [ByteArray.data_extract]
 have : s.data.size = s.size := rfl
 refine Array.ext (by simp [zB]; omega) (fun i h1 h2 => ?_)
 simp [zB] at h2
theorem Xk (f : Nat) (s : ByteArray) (h : s.size = 1) : (zL (f + 1) s).1 = [] \/ ∃ r, (zL (f + 1) s).1 = [r] := by
 unfold zL
 rw [if_neg (by omega)]
 split
 ·exact Or.inl rfl
 ·right
  have b := jX s (by omega)
  rw [vU s _ (by omega), Xj]
  exact ⟨_, rfl⟩
theorem zbo (k : ByteArray) (b : Int) (hb : 0 <= b /\ b < 256) (h : jB k) : (zq (zp k b)).1 = [] \/ ∃ r, (zq (zp k b)).1 = [r] \/ (zq (zp k b)).1 = [65533, r] \/ (zq (zp k b)).1 = [65533] := by
 have key : ∀ s : ByteArray, s.size = 1 -> (zq s).1 = [] \/ ∃ r, (zq s).1 = [r] := fun s hs => by
  unfold zq
  rw [hs]
  exact Xk 0 s hs
 rcases h with rfl | h
 ·rcases key (zp zB b) (by rw [jA]; rfl) with e | ⟨r, e⟩
  ·exact Or.inl e
  ·exact Or.inr ⟨r, Or.inl e⟩
 ·have hp := JF h
  have b0 : byt (zp k b) 0 = byt k 0 := JE k b 0 hp
  unfold qF at h
  simp only [Bool.and_eq_true, decide_eq_true_eq] at h
  obtain ⟨n2, ho⟩ := h
  have gp := go_push' k b hb (ze (byt k 0)).1 ((ze (byt k 0)).1 - 1) (ze (byt k 0)).2.1 (ze (byt k 0)).2.2 (byt k 0 % 2 ^ (7 - (ze (byt k 0)).1)) 1 (by omega) ho hp
  have dec : decB (zp k b) = goN (zp k b) (ze (byt k 0)).1 ((ze (byt k 0)).1 - 1) (ze (byt k 0)).2.1 (ze (byt k 0)).2.2 (byt k 0 % 2 ^ (7 - (ze (byt k 0)).1)) 1 := by
   unfold decB
   rw [b0, if_neg (by omega), if_neg (by omega)]
  unfold zq
  rw [jA]
  unfold zL
  rw [if_neg (by rw [jA]; omega)]
  by_cases o : qF (zp k b) = true
  ·rw [if_pos o]; exact Or.inl rfl
  ·rw [if_neg o]
   rcases gp with gp | gp | gp
   ·exfalso
    apply o
    unfold qF
    rw [b0, gp]
    simp
    exact n2
   ·rw [dec, gp, vU _ _ (by rw [jA]; exact Nat.le_refl _), Xj]
    exact Or.inr ⟨_, Or.inl rfl⟩
   ·rw [dec, gp]
    have s1 : ((zp k b).extract k.size (zp k b).size).size = 1 := by rw [ByteArray.size_extract, jA]; omega
    obtain ⟨m, hm⟩ : ∃ m, k.size = m + 1 := ⟨k.size - 1, by omega⟩
    have c := Xk m _ s1
    simp only
    rw [hm] at c ⊢
    rcases c with e | ⟨r, e⟩
    ·rw [e]; exact Or.inr ⟨0, Or.inr (Or.inr rfl)⟩
    ·rw [e]; exact Or.inr ⟨r, Or.inr (Or.inl rfl)⟩
structure Live (t : Trm) : Prop where
 fine : Fine t
 st : StOk t
 opn : qY t
 rest : RestOk t
 reps : t.reps.size <= 65536
structure Run (t t' : Trm) : Prop where
 fine : Fine t'
 opn : qY t'
 held : t'.held = t.held
 reps : t.reps.size <= 65536 -> t'.reps.size <= 65536
 kept : t'.kept = t.kept
 state : t'.state = t.state \/ t'.state = 1 /\ t'.opn = -1
theorem Qd {t : Trm} (h : Fine t) (o : qY t) (r : Int) : Run t (zY t r) := by
 have f := JZ h r
 unfold zY at f ⊢
 split
 ·exact ⟨by rw [if_pos (by assumption)] at f; exact f, Or.inl rfl, rfl, id, rfl, Or.inr ⟨rfl, rfl⟩⟩
 ·rename_i n1
  rw [if_neg n1] at f
  split
  ·rename_i c
   rw [if_pos c] at f
   have q := Xa t r
   have k := vQ t r
   exact ⟨f, Or.inl (zbc t r), q.held, q.reps, k.kept, Or.inl k.state⟩
  ·rename_i n2
   rw [if_neg n2] at f
   split
   ·rename_i c
    rw [if_pos c] at f
    have p := xZ h c
    obtain ⟨a, b⟩ := zbk h p o (qU r) (Xi r) (Xh r)
    have k := ZO t (qU r)
    exact ⟨f, a, b.held, b.reps, k.kept, Or.inl k.state⟩
   ·exact ⟨h, o, rfl, id, rfl, Or.inl rfl⟩
theorem zbp {t : Trm} (r : Int) (h : r ≠ 27) : (zY t r).state = t.state := by
 unfold zY
 rw [if_neg h]
 split
 ·exact (vQ t r).state
 ·split
  ·exact (ZO t _).state
  ·rfl
theorem Qe : ∀ (l : List Int) {t : Trm}, Fine t -> qY t -> t.reps.size <= 65536 -> qY (qg t l) /\ (qg t l).held = t.held /\ (qg t l).reps.size <= 65536
 | [], t, h, o, q => ⟨o, rfl, q⟩
 | r :: l, t, h, o, q => by
  have a := Qd h o r
  obtain ⟨b1, b2, b3⟩ := Qe l a.fine a.opn (a.reps q)
  exact ⟨b1, b2.trans a.held, b3⟩
theorem Qf {t : Trm} (h : Fine t) (o : qY t) (s0 : t.state = 0) (r : Int) : RestOk (zY t r) := by
 have a := Qd h o r
 intro n
 rcases a.state with e | e
 ·exact absurd (e.trans s0) n
 ·exact e.2
theorem Xl {t : Trm} (h : Live t) (s0 : t.state = 0) (b : Int) (hb : 0 <= b /\ b < 256) : Live (qL t b) /\ (qL t b).held = t.held := by
 have f := Z2 h.fine b
 have s := ZP t b s0
 have cf := zbo t.kept b hb h.st.kept
 unfold qL at f s ⊢
 have h1 : Fine { t with kept := (zq (zp t.kept b)).2 } := h.fine.still rfl rfl rfl
 have o1 : qY { t with kept := (zq (zp t.kept b)).2 } := by
  rcases h.opn with e | e
  ·exact Or.inl e
  ·exact Or.inr (e.same ⟨rfl, rfl, rfl, rfl⟩)
 have r := Qe (zq (zp t.kept b)).1 h1 o1 h.reps
 refine ⟨⟨f, s, r.1, ?_, r.2.2⟩, r.2.1⟩
 generalize hu : ({ t with kept := (zq (zp t.kept b)).2 } : Trm) = u at *
 have us : u.state = 0 := by rw [<- hu]; exact s0
 rcases cf with e | ⟨x, e | e | e⟩
 ·rw [e]; intro n; exact absurd us n
 ·rw [e]; exact Qf h1 o1 us x
 ·rw [e]
  have a := Qd h1 o1 65533
  exact Qf a.fine a.opn ((zbp 65533 (by decide)).trans us) x
 ·rw [e]; exact Qf h1 o1 us 65533
def Off (n : Nat) (u : Trm) : Prop := u.opn = -1 /\ u.reps.size <= 65536 /\ u.held.size <= n
theorem Ho.goOff {n : Nat} {u u' : Trm} (h : Ho u u') (k : Off n u) : Off n u' := ⟨h.off k.1, h.reps k.2.1, by rw [h.held]; exact k.2.2⟩
theorem Off.live {n : Nat} {u : Trm} (h : Off n u) (f : Fine u) (s : StOk u) : Live u := ⟨f, s, Or.inl h.1, fun _ => h.1, h.2.1⟩
theorem jk {n : Nat} {u u' : Trm} (k : Off n u) (e1 : u'.opn = u.opn) (e2 : u'.reps = u.reps) (e3 : u'.held = u.held) : Off n u' := ⟨e1.trans k.1, by rw [e2]; exact k.2.1, by rw [e3]; exact k.2.2⟩
theorem zbq {n : Nat} {t : Trm} (h : Fine t) (k : Off n t) (b : Int) : Off n (jz t b) := by
 have key : ∀ u : Trm, Off n u -> Off n (if u.w * u.h = 0 then u else if b = 69 then { (zD (setX u 0)) with pend := false } else if b = 68 then { (zD u) with pend := false } else if b = 77 then { (qp u) with pend := false } else if b = 72 then { u with stops := u.stops.set u.cur.x.toNat true } else u) := by
  intro u hu
  have i1 : Off n (zD (setX u 0)) := (kY (setX u 0)).goOff (jk hu rfl rfl rfl)
  have i2 := (kY u).goOff hu
  have i3 := (zbb u).goOff hu
  repeat' split
  all_goals first
  | exact hu
  | exact jk i1 rfl rfl rfl
  | exact jk i2 rfl rfl rfl
  | exact jk i3 rfl rfl rfl
  | exact jk hu rfl rfl rfl
 unfold jz
 simp only
 refine key _ ?_
 repeat' split
 all_goals first
 | exact jk k rfl rfl rfl
 | exact ⟨k.1, k.2.1, Nat.zero_le _⟩
 | exact ⟨rfl, k.2.1, Nat.zero_le _⟩
theorem zbr (t : Trm) : (qy t).opn = t.opn /\ (qy t).reps = t.reps /\ (qy t).held = t.held := by
 unfold qy
 simp only
 split <;> exact ⟨rfl, rfl, rfl⟩
theorem Xm {n : Nat} {u : Trm} (k : Off n u) (b : Int) : Off (n + 1) { u with held := zp u.held b } := ⟨k.1, k.2.1, by show (zp u.held b).size <= n + 1; rw [jA]; have := k.2.2; omega⟩
theorem Off.le {n m : Nat} {u : Trm} (k : Off n u) (h : n <= m) : Off m u := ⟨k.1, k.2.1, Nat.le_trans k.2.2 h⟩
theorem Xn {t : Trm} (h : Live t) (o : t.opn = -1) (b : Int) (hb : 0 <= b /\ b < 256) : Live (zu t b) /\ (zu t b).held.size <= t.held.size + 1 := by
 have f := Z9 h.fine b
 have s := ZT t b h.st
 have k : Off t.held.size t := ⟨o, h.reps, Nat.le_refl _⟩
 have fin : ∀ u, u = zu t b -> Off (t.held.size + 1) u -> Live (zu t b) /\ (zu t b).held.size <= t.held.size + 1 := by
  intro u e q
  subst e
  exact ⟨q.live f s, q.2.2⟩
 by_cases c1 : b = 27
 ·exact fin { t with state := 1 } (by unfold zu; rw [if_pos c1]) ((jk k rfl rfl rfl).le (Nat.le_succ _))
 by_cases c2 : b < 32
 ·exact fin (qT t b) (by unfold zu; rw [if_neg c1, if_pos c2]) (((Xa t b).goOff k).le (Nat.le_succ _))
 by_cases c3 : b = 127
 ·exact fin t (by unfold zu; rw [if_neg c1, if_neg c2, if_pos c3]) (k.le (Nat.le_succ _))
 by_cases c4 : 127 < b
 ·have e : zu t b = qL { t with state := 0 } b := by unfold zu; rw [if_neg c1, if_neg c2, if_neg c3, if_pos c4]
  have q := Xl (t := { t with state := 0 }) ⟨h.fine.still rfl rfl rfl, ⟨Int.le_refl 0, by show (0 : Int) <= 7; decide, h.st.kept⟩, Or.inl o, fun _ => o, h.reps⟩ rfl b hb
  rw [e]
  exact ⟨q.1, by rw [q.2]; exact Nat.le_succ _⟩
 by_cases c5 : t.state = 3
 ·by_cases c6 : b < 64
  ·exact fin { t with held := zp t.held b } (by unfold zu; rw [if_neg c1, if_neg c2, if_neg c3, if_neg c4, if_pos c5, if_pos c6]) (Xm k b)
  ·refine fin (jy { t with state := 0 } b) (by unfold zu; rw [if_neg c1, if_neg c2, if_neg c3, if_neg c4, if_pos c5, if_neg c6]) (Off.le ?_ (Nat.le_succ _))
   exact (zbh (t := { t with state := 0 }) (h.fine.still rfl rfl rfl) b).goOff ⟨rfl, h.reps, Nat.le_refl _⟩
 by_cases c7 : b < 48
 ·exact fin { t with state := 2 } (by unfold zu; rw [if_neg c1, if_neg c2, if_neg c3, if_neg c4, if_neg c5, if_pos c7]) ((jk k rfl rfl rfl).le (Nat.le_succ _))
 by_cases c8 : t.state = 2
 ·exact fin { t with state := 0 } (by unfold zu; rw [if_neg c1, if_neg c2, if_neg c3, if_neg c4, if_neg c5, if_neg c7, if_pos c8]) ((jk k rfl rfl rfl).le (Nat.le_succ _))
 ·exact fin (jz t b) (by unfold zu; rw [if_neg c1, if_neg c2, if_neg c3, if_neg c4, if_neg c5, if_neg c7, if_neg c8]) ((zbq h.fine k b).le (Nat.le_succ _))
theorem zbs {t : Trm} (h : Live t) (b : Int) (hb : 0 <= b /\ b < 256) : Live (zA t b) /\ (zA t b).held.size <= t.held.size + 1 := by
 have f := zba h.fine b
 have s := take_ok t b h.st
 by_cases c0 : t.state = 0
 ·have q := Xl h c0 b hb
  have e : zA t b = qL t b := by unfold zA; rw [if_pos c0]
  rw [e]
  exact ⟨q.1, by rw [q.2]; exact Nat.le_succ _⟩
 have o := h.rest c0
 have k : Off t.held.size t := ⟨o, h.reps, Nat.le_refl _⟩
 have fin : ∀ u, u = zA t b -> Off (t.held.size + 1) u -> Live (zA t b) /\ (zA t b).held.size <= t.held.size + 1 := by
  intro u e q
  subst e
  exact ⟨q.live f s, q.2.2⟩
 obtain ⟨t1, t2, t3⟩ := zbr t
 by_cases c1 : b = 24 \/ b = 26
 ·exact fin { t with state := 0 } (by unfold zA; rw [if_neg c0, if_pos c1]) ((jk k rfl rfl rfl).le (Nat.le_succ _))
 by_cases c2 : t.state = 6 \/ t.state = 7
 ·by_cases c3 : b ≠ 92
  ·have e : zA t b = zu { t with state := 1 } b := by unfold zA; rw [if_neg c0, if_neg c1, if_pos c2, if_pos c3]
   rw [e]
   exact Xn (t := { t with state := 1 }) ⟨h.fine.still rfl rfl rfl, ⟨by show (0 : Int) <= 1; decide, by show (1 : Int) <= 7; decide, h.st.kept⟩, Or.inl o, fun _ => o, h.reps⟩ o b hb
  ·by_cases c4 : t.state = 6
   ·exact fin { (qy t) with state := 0 } (by unfold zA; rw [if_neg c0, if_neg c1, if_pos c2, if_neg c3, if_pos c4]) ((jk k t1 t2 t3).le (Nat.le_succ _))
   ·exact fin { t with state := 0 } (by unfold zA; rw [if_neg c0, if_neg c1, if_pos c2, if_neg c3, if_neg c4]) ((jk k rfl rfl rfl).le (Nat.le_succ _))
 by_cases c3 : t.state = 4 \/ t.state = 5
 ·refine fin (qE t b) (by unfold zA; rw [if_neg c0, if_neg c1, if_neg c2, if_pos c3]) ?_
  unfold qE
  repeat' split
  ·exact (jk k rfl rfl rfl).le (Nat.le_succ _)
  ·exact k.le (Nat.le_succ _)
  ·exact (jk k t1 t2 t3).le (Nat.le_succ _)
  ·exact Xm k b
  ·exact k.le (Nat.le_succ _)
 ·have e : zA t b = zu t b := by unfold zA; rw [if_neg c0, if_neg c1, if_neg c2, if_neg c3]
  rw [e]
  exact Xn h o b hb
theorem Qg : ∀ (l : List Int) {t : Trm}, Live t -> (∀ b ∈ l, 0 <= b /\ b < 256) -> Live (qC t l) /\ (qC t l).held.size <= t.held.size + l.length
 | [], t, h, _ => ⟨h, Nat.le_refl _⟩
 | b :: l, t, h, r => by
  have a := zbs h b (r b (by simp))
  have c := Qg l a.1 (fun x hx => r x (by simp [hx]))
  refine ⟨c.1, ?_⟩
  show (qC (zA t b) l).held.size <= _
  rw [List.length_cons]
  omega
theorem live_new (w h : Int) (w0 : 0 <= w) (w1 : w <= 4096) (h0 : 0 <= h) (h1 : h <= 4096) (ar : w * h <= 1048576) : Live (newV w h) :=
 ⟨Z8 w h w0 w1 h0 h1 ar, new_ok w h, Or.inl rfl, fun _ => rfl, Nat.zero_le _⟩
end Go.Proofs.YtmaofighbpnbiaaGreatDoor
/- Tapes: what is written, and what is read (plain; of no program). -/
namespace Go.Proofs.YtmaofighbpnbiaaGreatDoor
set_option linter.unusedVariables false
structure Frm where
 at_ : Int
 bs : List Int
def zR (w h : Int) : Bool := decide (0 <= w /\ w <= 4096 /\ 0 <= h /\ h <= 4096 /\ w * h <= 1048576)
def qG (l : List Frm) : Bool := l.any fun f => decide (1048576 < f.bs.length)
def qm (l : List Frm) : Bool := qG l || decide (16384 < l.length)
def zJ : Int -> List Frm -> Bool
 | _, [] => true
 | last, f :: l => decide (last <= f.at_ /\ f.at_ <= 1099511627776) && zJ f.at_ l
def jD (l : List Frm) : Bool := zJ 0 l
def zZ (l : List Frm) : Int := if qm l then 3 else if jD l then 0 else 301
def numF : Nat -> Int -> List Int
 | 0, n => [n]
 | k + 1, n => if n < 128 then [n] else (128 + n % 128) :: numF k (n / 128)
def numL (n : Int) : List Int := numF 9 n
def sumF : List Int -> Int -> Int -> Int × Int
 | [], a, c => (a, c)
 | b :: l, a, c => sumF l ((a + b) % 65521) ((c + (a + b) % 65521) % 65521)
def sumL (D : List Int) : Int := 65536 * (sumF D 1 0).2 + (sumF D 1 0).1
def qH (s : Int) : List Int := [s % 256, s / 256 % 256, s / 65536 % 256, s / 16777216]
def encF (b : List Int) (last : Int) : List Frm -> Option (List Int)
 | [] => some b
 | f :: l => if 1048576 < b.length + f.bs.length then none else encF (b ++ numL (f.at_ - last) ++ numL f.bs.length ++ f.bs) f.at_ l
def jQ (w h n : Int) : List Int := [70, 77, 1] ++ numL w ++ numL h ++ numL n
def qi (b : List Int) : List Int := b ++ qH (sumL b)
def encT (w h : Int) (l : List Frm) : List Int × Int :=
 if zR w h = false then ([], 5) else if zZ l ≠ 0 then ([], zZ l) else
 match encF (jQ w h l.length) 0 l with
 | none => ([], 3)
 | some b => if 1048576 < (qi b).length then ([], 3) else (qi b, 0)
structure RdT where
 at_ : Nat
 code : Int
 spot : Int
def zI (r : RdT) (c p : Int) : RdT := if r.code = 0 then ⟨r.at_, c, p⟩ else r
def zw (D : List Int) (r : RdT) (n : Int) : List Int × RdT :=
 if r.code ≠ 0 then ([], r) else if (D.length : Int) - r.at_ < n then ([], zI r 6 D.length) else ((D.drop r.at_).take n.toNat, ⟨r.at_ + n.toNat, r.code, r.spot⟩)
def qM (D : List Int) (first : Nat) (most : Int) : Nat -> Nat -> Int -> RdT -> Int × RdT
 | 0, i, n, r => (0, zI r 300 first)
 | k + 1, i, n, r =>
  if r.code ≠ 0 then (0, r) else if D.length <= r.at_ then (0, zI r 6 D.length) else
  if D.getD r.at_ 0 < 128 then
   (if (D.getD r.at_ 0 = 0 /\ 0 < i) \/ most < n + D.getD r.at_ 0 * 128 ^ i then (0, zI ⟨r.at_ + 1, r.code, r.spot⟩ 300 first) else (n + D.getD r.at_ 0 * 128 ^ i, ⟨r.at_ + 1, r.code, r.spot⟩))
  else qM D first most k (i + 1) (n + D.getD r.at_ 0 % 128 * 128 ^ i) ⟨r.at_ + 1, r.code, r.spot⟩
def numR (D : List Int) (r : RdT) (most : Int) : Int × RdT := qM D r.at_ most 6 0 0 r
def jJ (D : List Int) (r : RdT) (i c : Int) : RdT := if (zw D r 1).1 ≠ [] /\ (zw D r 1).1.getD 0 0 ≠ c then zI (zw D r 1).2 300 i else (zw D r 1).2
def frsR (D : List Int) : Nat -> Int -> RdT -> List Frm × RdT
 | 0, _, r => ([], r)
 | k + 1, last, r => if r.code ≠ 0 then ([], r) else
  let p := numR D r (1099511627776 - last)
  let q := numR D p.2 1099511627776
  let t := zw D q.2 q.1
  let z := frsR D k (last + p.1) t.2
  (⟨last + p.1, t.1⟩ :: z.1, z.2)
structure Dec where
 w : Int
 h : Int
 l : List Frm
 code : Int
 spot : Int
def x7 (r : RdT) (a : Nat) (w h : Int) : RdT := if 1048576 < w * h then zI r 300 a else r
def sumR (D : List Int) (r : RdT) : RdT :=
 let t := zw D r 4
 if t.1 = [] then t.2 else if t.1 ≠ qH (sumL (D.take r.at_)) then zI t.2 300 r.at_ else if t.2.at_ < D.length then zI t.2 300 t.2.at_ else t.2
def endR (w h : Int) (l : List Frm) (r : RdT) : Dec := if r.code ≠ 0 then ⟨0, 0, [], r.code, r.spot⟩ else ⟨w, h, l, 0, 0⟩
def vc (D : List Int) : RdT := jJ D (jJ D (jJ D ⟨0, 0, 0⟩ 0 70) 1 77) 2 1
def decT (D : List Int) : Dec :=
 if 1048576 < D.length then ⟨0, 0, [], 3, 0⟩ else
 let w := numR D (vc D) 4096
 let h := numR D w.2 4096
 let n := numR D (x7 h.2 w.2.at_ w.1 h.1) 16384
 let f := frsR D n.1.toNat 0 n.2
 endR w.1 h.1 f.1 (sumR D f.2)
/-! reading what was written -/
theorem Qh (k : Nat) (m : Int) (h : 128 <= m) : numF (k + 1) m = (128 + m % 128) :: numF k (m / 128) := by
 rw [numF, if_neg (by omega)]
theorem Qi (k : Nat) (m : Int) (h : m < 128) : numF k m = [m] := by
 cases k with
 | zero => rfl
 | succ k => rw [numF, if_pos h]
theorem x8 {D : List Int} {p : Nat} {x : Int} {l : List Int} (h : D.drop p = x :: l) : p < D.length /\ D.getD p 0 = x /\ D.drop (p + 1) = l := by
 have lt : p < D.length := by
  rcases Nat.lt_or_ge p D.length with a | a
  ·exact a
  ·rw [List.drop_eq_nil_of_le a] at h; cases h
 rw [List.drop_eq_getElem_cons lt] at h
 simp only [List.cons.injEq] at h
 exact ⟨lt, by rw [List.getD_eq_getElem?_getD, List.getElem?_eq_getElem lt]; exact h.1, h.2⟩
theorem Xo (i : Nat) (acc m : Int) : acc + m % 128 * 128 ^ i + m / 128 * 128 ^ (i + 1) = acc + m * 128 ^ i := by
 have e : m = 128 * (m / 128) + m % 128 := (Int.mul_ediv_add_emod m 128).symm
 have p : (128 : Int) ^ (i + 1) = 128 ^ i * 128 := Int.pow_succ _ _
 rw [p]
 generalize m / 128 = q at *
 generalize m % 128 = r at *
 generalize (128 : Int) ^ i = P at *
 subst e
 grind
theorem Xp (D : List Int) (first : Nat) (most s : Int) : ∀ (k f i : Nat) (acc m : Int) (p : Nat) (rest : List Int), k <= f + 1 -> 0 < k -> 0 <= m -> m < 128 ^ k -> (0 < i -> 0 < m) -> acc + m * 128 ^ i <= most -> D.drop p = numF f m ++ rest ->
  qM D first most k i acc ⟨p, 0, s⟩ = (acc + m * 128 ^ i, ⟨p + (numF f m).length, 0, s⟩)
 | 0, _, _, _, _, _, _, _, h, _, _, _, _, _ => absurd h (Nat.lt_irrefl 0)
 | k + 1, f, i, acc, m, p, rest, hf, _, m0, m1, hi, hm, hD => by
  by_cases c : m < 128
  ·rw [Qi f m c] at hD ⊢
   obtain ⟨a1, a2, _⟩ := x8 hD
   have n1 : ¬ ((D.getD p 0 = 0 /\ 0 < i) \/ most < acc + D.getD p 0 * 128 ^ i) := by
    rw [a2]
    rintro (⟨x, y⟩ | x)
    ·have := hi y; omega
    ·omega
   rw [qM, if_neg (by simp), if_neg (by simp only; omega), if_pos (by simp only; rw [a2]; exact c), if_neg n1, a2]
   rfl
  ·have c : 128 <= m := by omega
   obtain ⟨f', rfl⟩ : ∃ f', f = f' + 1 := by
    cases f with
    | zero =>
     have k0 : k = 0 := by omega
     subst k0
     simp at m1
     omega
    | succ f' => exact ⟨f', rfl⟩
   rw [Qh f' m c] at hD ⊢
   obtain ⟨a1, a2, a3⟩ := x8 hD
   have k0 : 0 < k := by
    rcases Nat.eq_zero_or_pos k with z | z
    ·subst z; simp at m1; omega
    ·exact z
   have r := Xp D first most s k f' (i + 1) (acc + m % 128 * 128 ^ i) (m / 128) (p + 1) rest (by omega) k0 (by omega) (by
    have e : (128 : Int) ^ (k + 1) = 128 ^ k * 128 := Int.pow_succ _ _
    rw [e] at m1
    exact Int.ediv_lt_of_lt_mul (by decide) m1) (fun _ => by omega) (by rw [Xo]; exact hm) a3
   rw [Xo] at r
   have e128 : (128 + m % 128) % 128 = m % 128 := by omega
   rw [qM, if_neg (by simp), if_neg (by simp only; omega), if_neg (by simp only; rw [a2]; omega), a2, e128, r]
   simp only [List.length_cons, Prod.mk.injEq, RdT.mk.injEq, true_and, and_true]
   omega
theorem ve {D : List Int} {p : Nat} {n most : Int} {rest : List Int} (s : Int) (h0 : 0 <= n) (hm : n <= most) (h40 : n <= 1099511627776) (hD : D.drop p = numL n ++ rest) : numR D ⟨p, 0, s⟩ most = (n, ⟨p + (numL n).length, 0, s⟩) := by
 have := Xp D p most s 6 9 0 0 n p rest (by decide) (by decide) h0 (by omega) (fun h => absurd h (Nat.lt_irrefl 0)) (by simpa using hm) hD
 unfold numR numL
 simpa using this
theorem numF_pos (k : Nat) (m : Int) : 0 < (numF k m).length := by
 cases k with
 | zero => exact Nat.one_pos
 | succ k => rw [numF]; split <;> simp
theorem Qj {D : List Int} {p : Nat} {x rest : List Int} (s : Int) (le : p <= D.length) (hD : D.drop p = x ++ rest) : zw D ⟨p, 0, s⟩ x.length = (x, ⟨p + x.length, 0, s⟩) := by
 have len := congrArg List.length hD
 rw [List.length_drop, List.length_append] at len
 unfold zw
 rw [if_neg (by simp)]
 simp only
 rw [if_neg (by omega), hD, Int.toNat_natCast, List.take_left']
 rfl
def jo (last : Int) : List Frm -> List Int
 | [] => []
 | f :: l => numL (f.at_ - last) ++ numL f.bs.length ++ f.bs ++ jo f.at_ l
theorem vV : ∀ (l : List Frm) (b : List Int) (last : Int) (c : List Int), encF b last l = some c -> c = b ++ jo last l
 | [], b, last, c, h => by rw [encF] at h; cases h; rw [jo, List.append_nil]
 | f :: l, b, last, c, h => by
  rw [encF] at h
  split at h
  ·cases h
  ·rw [vV l _ _ c h, jo]
   simp only [List.append_assoc]
theorem xJ {D x rest : List Int} {p : Nat} (h : D.drop p = x ++ rest) : D.drop (p + x.length) = rest := by
 rw [<- List.drop_drop, h, List.drop_left]
theorem Xq (D : List Int) (s : Int) : ∀ (l : List Frm) (last : Int) (p : Nat) (rest : List Int), 0 <= last -> zJ last l = true -> qG l = false -> D.drop p = jo last l ++ rest ->
  frsR D l.length last ⟨p, 0, s⟩ = (l, ⟨p + (jo last l).length, 0, s⟩)
 | [], last, p, rest, _, _, _, hD => rfl
 | f :: l, last, p, rest, h0, ht, hl, hD => by
  rw [zJ, Bool.and_eq_true] at ht
  obtain ⟨t1, t2⟩ := ht
  have t1 := of_decide_eq_true t1
  rw [qG, List.any_cons, Bool.or_eq_false_iff] at hl
  have l1 := of_decide_eq_false hl.1
  rw [jo] at hD ⊢
  simp only [List.append_assoc] at hD
  have d1 := xJ hD
  have d2 := xJ d1
  have d3 := xJ d2
  have len := congrArg List.length hD
  rw [List.length_drop, List.length_append, List.length_append] at len
  have ps := numF_pos 9 (f.at_ - last)
  rw [List.length_cons, frsR, if_neg (by simp), ve s (by omega) (by omega) (by omega) hD]
  simp only
  rw [ve s (by omega) (by omega) (by omega) d1]
  simp only
  rw [Qj s (by unfold numL at *; omega) d2]
  simp only
  have e : last + (f.at_ - last) = f.at_ := by omega
  rw [e, Xq D s l f.at_ _ rest (by omega) t2 hl.2 d3]
  simp only [List.length_append, Prod.mk.injEq, RdT.mk.injEq, true_and, and_true]
  omega
theorem Xr (s : Int) : (qH s).length = 4 := rfl
theorem Qk {D : List Int} {p : Nat} {c : Int} {rest : List Int} (s i : Int) (hD : D.drop p = c :: rest) : jJ D ⟨p, 0, s⟩ i c = ⟨p + 1, 0, s⟩ := by
 have := Qj (x := [c]) s (Nat.le_of_lt (x8 hD).1) hD
 unfold jJ
 rw [show ((1 : Int)) = ((List.length [c] : Nat) : Int) from rfl, this]
 simp
theorem dec_enc (w h : Int) (l : List Frm) (b : List Int) (e : encT w h l = (b, 0)) : decT b = ⟨w, h, l, 0, 0⟩ := by
 unfold encT at e
 split at e
 ·cases e
 rename_i sz
 have sz : zR w h = true := by cases q : zR w h with | false => exact absurd q sz | true => rfl
 have sz := of_decide_eq_true sz
 split at e
 ·rename_i ne
  simp only [Prod.mk.injEq] at e
  exact absurd e.2 ne
 rename_i ck
 have ck : zZ l = 0 := by omega
 unfold zZ at ck
 have mn : qm l = false := by cases q : qm l with | false => rfl | true => rw [q] at ck; simp at ck
 rw [mn] at ck
 have tm : jD l = true := by cases q : jD l with | true => rfl | false => rw [q] at ck; simp at ck
 rw [qm, Bool.or_eq_false_iff] at mn
 have ml := of_decide_eq_false mn.2
 split at e
 ·cases e
 rename_i c hc
 have ec := vV l _ _ c hc
 split at e
 ·cases e
 rename_i len
 simp only [Prod.mk.injEq, and_true] at e
 subst e
 have hD : (qi c).drop 0 = 70 :: 77 :: 1 :: (numL w ++ (numL h ++ (numL l.length ++ (jo 0 l ++ qH (sumL c))))) := by
  unfold qi
  rw [ec]
  unfold jQ
  simp only [List.drop_zero, List.append_assoc, List.cons_append, List.nil_append]
 have d1 := (x8 hD).2.2
 have d2 := (x8 d1).2.2
 have d3 := (x8 d2).2.2
 have d4 := xJ d3
 have d5 := xJ d4
 have d6 := xJ d5
 have d7 := xJ d6
 have st : vc (qi c) = ⟨3, 0, 0⟩ := by
  unfold vc
  rw [Qk 0 0 hD, Qk 0 1 d1, Qk 0 2 d2]
 have n1 := ve 0 sz.1 sz.2.1 (by omega) d3
 have n2 := ve 0 sz.2.2.1 sz.2.2.2.1 (by omega) d4
 have n3 := ve (n := (l.length : Int)) (most := 16384) 0 (by omega) (by omega) (by omega) d5
 have n4 := Xq (qi c) 0 l 0 _ _ (by omega) tm mn.1 d6
 have cl : (qi c).take (0 + 1 + 1 + 1 + (numL w).length + (numL h).length + (numL l.length).length + (jo 0 l).length) = c := by
  unfold qi
  have : c.length = 0 + 1 + 1 + 1 + (numL w).length + (numL h).length + (numL l.length).length + (jo 0 l).length := by
   rw [ec]
   unfold jQ
   simp only [List.length_append, List.length_cons, List.length_nil] <;> omega
  rw [<- this, List.take_left']
  rfl
 have dl : (qi c).length = 0 + 1 + 1 + 1 + (numL w).length + (numL h).length + (numL l.length).length + (jo 0 l).length + 4 := by
  unfold qi
  rw [ec]
  unfold jQ
  simp only [List.length_append, List.length_cons, List.length_nil, Xr] <;> omega
 have n5 := Qj (x := qH (sumL c)) (rest := []) 0 (by rw [dl]; exact Nat.le_add_right _ 4) (by rw [d7, List.append_nil])
 have d0 : decT (qi c) = (let w' := numR (qi c) (vc (qi c)) 4096; let h' := numR (qi c) w'.2 4096; let n := numR (qi c) (x7 h'.2 w'.2.at_ w'.1 h'.1) 16384; let f := frsR (qi c) n.1.toNat 0 n.2; endR w'.1 h'.1 f.1 (sumR (qi c) f.2)) := by
  unfold decT
  rw [if_neg len]
 rw [d0, st]
 simp only
 rw [show (3 : Nat) = 0 + 1 + 1 + 1 from rfl, n1]
 simp only
 rw [n2]
 simp only
 unfold x7
 rw [if_neg (by omega), n3]
 simp only [Int.toNat_natCast]
 rw [n4]
 simp only
 unfold sumR
 rw [Xr] at n5
 simp only
 rw [show ((4 : Int)) = ((4 : Nat) : Int) from rfl, n5]
 simp only
 rw [if_neg (by unfold qH; simp), cl, if_neg (by simp), if_neg (by omega)]
 unfold endR
 rw [if_neg (by simp)]
end Go.Proofs.YtmaofighbpnbiaaGreatDoor
