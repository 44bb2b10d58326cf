/- What lies below tapes (kept of earlier texts: VtPl, TpP). -/
import Derived.Test.YtmaofighbpnbiaaGreatDoorTaEA
set_option linter.unusedVariables false
set_option linter.unusedSimpArgs false
namespace Go.Proofs.YtmaofighbpnbiaaGreatDoor
section
open Go.RowKit
structure Cur where
 x : Int
 y : Int
 st : Sty
 org : Bool
structure Trm where
 w : Int
 h : Int
 cells : List Cel
 cur : Cur
 away : List Cel
 sav : Cur
 pend : Bool
 wrap : Bool
 ins : Bool
 shown : Bool
 alt : Bool
 top : Int
 bot : Int
 stops : List Bool
 opn : Int
 name : ByteArray
 reps : ByteArray
 wrt : List Bool
 state : Int
 held : ByteArray
 kept : ByteArray
def cur0 : Cur := ⟨0, 0, qI, false⟩
def kZ (w : Int) : List Bool := (List.range w.toNat).map fun x => decide (0 < x /\ x % 8 = 0)
def newV (w h : Int) : Trm :=
  { w := w, h := h, cells := List.replicate (w * h).toNat qB, cur := cur0, away := List.replicate (w * h).toNat qB, sav := cur0, pend := false, wrap := true, ins := false, shown := true, alt := false, top := 0, bot := h - 1,
    stops := kZ w, opn := -1, name := zB, reps := zB, wrt := List.replicate (w * h).toNat false, state := 0, held := zB, kept := zB }
def blkS (s : Sty) : Cel := ⟨⟨#[32]⟩, 1, zT s⟩
def Trm.blank (t : Trm) : Cel := blkS ⟨0, t.cur.st.bg, qI.at_⟩
def Trm.cell (t : Trm) (i : Nat) : Cel := t.cells.getD i celD
def setX (t : Trm) (x : Int) : Trm := { t with cur := { t.cur with x := x } }
def setY (t : Trm) (y : Int) : Trm := { t with cur := { t.cur with y := y } }
def setSt (t : Trm) (s : Sty) : Trm := { t with cur := { t.cur with st := s } }
def putT (t : Trm) (i : Nat) (c : Cel) : Trm := { t with cells := t.cells.set i c, wrt := t.wrt.set i true }
def zg (t : Trm) (x y : Int) : Trm :=
 if x <= 0 \/ t.w <= x \/ (t.cell (y * t.w + x).toNat).wide ≠ 0 then t
 else putT (putT t ((y * t.w + x).toNat - 1) (blkS (t.cell ((y * t.w + x).toNat - 1)).st)) (y * t.w + x).toNat (blkS (t.cell (y * t.w + x).toNat).st)
def zI (t : Trm) (x y : Int) (s : ByteArray) (n : Int) (st : Sty) : Trm :=
 let t1 := putT (zg (zg t x y) (x + n) y) (y * t.w + x).toNat ⟨s, n, st⟩
 if n = 2 then putT t1 ((y * t.w + x).toNat + 1) ⟨zB, 0, st⟩ else t1
def qe (t : Trm) (x : Int) : Trm := if t.w <= x then { (setX t (t.w - 1)) with pend := t.wrap } else setX t x
def zm (t : Trm) (f : Nat) : Nat -> Trm
 | 0 => t
 | n + 1 => putT (zm t f n) (f + n) t.blank
def zv (t : Trm) (f : Nat) : Nat -> Trm
 | 0 => t
 | n + 1 => { zv t f n with wrt := (zv t f n).wrt.set (f + n) true }
def zh (t : Trm) (f : Nat) (l : List Cel) : Trm := { t with cells := t.cells.take f ++ l ++ t.cells.drop (f + l.length) }
def upL' (l : List Cel) (k : Nat) : List Cel := l.drop k ++ l.drop (l.length - k)
def ku (l : List Cel) (k : Nat) : List Cel := l.take k ++ l.take (l.length - k)
def absI (n : Int) : Int := max n (-n)
def zZ (t : Trm) (f e n : Int) : Trm :=
 let a := (f * t.w).toNat
 let z := (e * t.w).toNat
 let l := (t.cells.drop a).take (z - a)
 let k := (min (absI n * t.w) (l.length : Int)).toNat
 if 0 < n then zv (zm (zh t a (upL' l k)) (z - k) k) a (z - a)
 else zv (zm (zh t a (ku l k)) a k) a (z - a)
def zF (t : Trm) : Trm := if t.cur.y = t.bot then zZ t t.top (t.bot + 1) 1 else setY t (min (t.cur.y + 1) (t.h - 1))
def qt (t : Trm) : Trm := if t.cur.y = t.top then zZ t t.top (t.bot + 1) (-1) else setY t (max (t.cur.y - 1) 0)
def zA (t : Trm) : Trm := zF (setX { t with pend := false } 0)
def zJ (t : Trm) (n : Int) : Trm :=
 let a := (t.cur.y * t.w + t.cur.x).toNat
 let z := ((t.cur.y + 1) * t.w).toNat
 let t1 := zg t t.cur.x t.cur.y
 if 0 < n then
  let k := min n ((z - a : Nat) : Int)
  let t2 := zg t1 (t.w - k) t.cur.y
  zv (zm (zh t2 a (ku ((t2.cells.drop a).take (z - a)) k.toNat)) a k.toNat) a (z - a)
 else
  let k := min (-n) ((z - a : Nat) : Int)
  let t2 := zg t1 (t.cur.x + k) t.cur.y
  zv (zm (zh t2 a (upL' ((t2.cells.drop a).take (z - a)) k.toNat)) (z - k.toNat) k.toNat) a (z - a)
def qd (t : Trm) (f e : Int) : Trm :=
 let t1 := zg t (f % t.w) (f / t.w)
 let t2 := if e < t.cells.length then zg t1 (e % t.w) (e / t.w) else t1
 zm t2 f.toNat (e - f).toNat
def tabF (t : Trm) (d : Int) : Nat -> Int -> Int
 | 0, x => x
 | f + 1, x => if x + d < 0 \/ t.w <= x + d then x else if t.stops.getD (x + d).toNat false = true then x + d else tabF t d f (x + d)
def tabT (t : Trm) (d : Int) : Trm := setX t (tabF t d (t.w.toNat + 1) t.cur.x)
def jH (t : Trm) : Trm :=
 let c := t.sav
 let x := if t.w * t.h = 0 then 0 else max 0 (min c.x (t.w - 1))
 let y := if t.w * t.h = 0 then 0 else max 0 (min c.y (t.h - 1))
 { t with cur := ⟨x, y, c.st, c.org⟩, pend := false }
def jV (t : Trm) : Trm := { t with cur := { t.cur with x := 0, y := if t.cur.org = true then t.top else 0 } }
def qY (t0 : Trm) (r : Int) : Trm :=
 let t := { t0 with opn := -1 }
 if t.w * t.h = 0 then t
 else if r = 8 then { (setX t (max 0 (t.cur.x - 1))) with pend := false }
 else if r = 9 then { (tabT t 1) with pend := false }
 else if r = 10 \/ r = 11 \/ r = 12 then { (zF t) with pend := false }
 else if r = 13 then { (setX t 0) with pend := false }
 else t
def zn (s : ByteArray) : Int := ((qn s).map (·.2)).sum
def zU (t0 : Trm) (s : ByteArray) : Trm :=
 let t := { t0 with opn := -1 }
 let n := zn s
 if n = 0 \/ t.w < n then t
 else
  let t1 := if t.pend = true then zA t else t
  if t1.w < t1.cur.x + n /\ t1.wrap = false then t1
  else
   let t2 := if t1.w < t1.cur.x + n then zA t1 else t1
   let t3 := if t2.ins = true then zJ t2 n else t2
   let t4 := { t3 with opn := t3.cur.y * t3.w + t3.cur.x }
   qe (zI t4 t4.cur.x t4.cur.y s n t4.cur.st) (t4.cur.x + n)
def qf (t : Trm) (s : ByteArray) : Trm :=
 if 0 <= t.opn then
  match oneB ((t.cell t.opn.toNat).text ++ s) with
  | some n =>
   let c := t.cell t.opn.toNat
   let x := t.opn % t.w
   let y := t.opn / t.w
   if n = c.wide then zI t x y (c.text ++ s) n c.st
   else if x < t.w - 1 then qe (zI t x y (c.text ++ s) n c.st) (x + 2)
   else t
  | none => zU t s
 else zU t s
def qZ (r : Int) : ByteArray := barr (qm r)
def z6 (t : Trm) (r : Int) : Trm :=
 if r = 27 then { t with opn := -1, state := 1 }
 else if r < 32 \/ 127 <= r /\ r < 160 then qY t r
 else if 0 < t.w * t.h then qf t (qZ r) else t
structure Nums where
 prefix_ : Int
 list : List Int
 void : Bool
def digB (c : Int) : Bool := decide (48 <= c) && decide (c <= 57)
def jy : List Int -> Int -> List Int -> Bool -> List Int × Bool
 | [], x, l, v => (l ++ [x], v)
 | c :: r, x, l, v => if digB c = true then jy r (min (10 * x + (c - 48)) 9999) l v else if c = 59 then jy r 0 (l ++ [x]) v else jy r x l true
def byL (s : ByteArray) : List Int := s.data.toList.map fun b => (b.toNat : Int)
def xh (s : ByteArray) : Nums :=
 let b := byL s
 let p := if 60 <= b.getD 0 0 then b.getD 0 0 else 0
 let q := jy (if 60 <= b.getD 0 0 then b.drop 1 else b) 0 [] false
 ⟨p, q.1.take 32, q.2⟩
def Nums.count (n : Nums) (i : Nat) : Int := if i < n.list.length then max (n.list.getD i 0) 1 else 1
def qC (t : Trm) (s : ByteArray) : Trm := if t.reps.size + (s.size + 2) <= 65536 then { t with reps := t.reps ++ (⟨#[27, 91]⟩ ++ s) } else t
def ja (t : Trm) (k : Int) : Trm :=
 if k = 5 then qC t ⟨#[48, 110]⟩
 else if k = 6 then qC t (((itB ((if t.cur.org = true then max (t.cur.y - t.top) 0 else t.cur.y) + 1) ++ ⟨#[59]⟩) ++ itB (t.cur.x + 1)) ++ ⟨#[82]⟩)
 else t
def allW (t : Trm) : Trm := { t with wrt := List.replicate t.wrt.length true }
def qg (t : Trm) (k : Int) (on : Bool) : Trm :=
 if k = 6 then { (jV { t with cur := { t.cur with org := on } }) with pend := false }
 else if k = 7 then { t with wrap := on, pend := t.pend && on }
 else if k = 25 then { t with shown := on }
 else if k = 1049 then
  let t1 := { t with pend := false }
  if on = t.alt then t1
  else
   let t2 := allW { t1 with alt := on, cells := t.away, away := t.cells }
   if on = true then zm { t2 with sav := t2.cur } 0 t2.cells.length else jH t2
 else t
def upT (t : Trm) (k : Int) : Trm := setY t (max (t.cur.y - k) (if t.top <= t.cur.y then t.top else 0))
def kv (t : Trm) (k : Int) : Trm := setY t (min (t.cur.y + k) (if t.cur.y <= t.bot then t.bot else t.h - 1))
def rowT (t : Trm) (k : Int) : Trm := setY t (if t.cur.org = true then min (t.top + k - 1) t.bot else min k t.h - 1)
def kx (t : Trm) (k : Int) : Trm := setX t (min k t.w - 1)
def jo (t : Trm) (d : Int) : Nat -> Trm
 | 0 => t
 | n + 1 => tabT (jo t d n) d
def qD (t : Trm) (n : Int) : Trm := if t.top <= t.cur.y /\ t.cur.y <= t.bot then setX (zZ t t.cur.y (t.bot + 1) n) 0 else t
def jp (t : Trm) (n : Nums) : Trm :=
 let a := n.count 0
 let b := if 1 < n.list.length /\ 0 < n.list.getD 1 0 then min (n.list.getD 1 0) t.h else t.h
 if a < b then jV { t with top := a - 1, bot := b - 1 } else t
def jW (t : Trm) (k : Int) : Trm :=
 if k = 0 then qd t (t.cur.y * t.w + t.cur.x) (t.cur.y * t.w + t.w)
 else if k = 1 then qd t (t.cur.y * t.w) (t.cur.y * t.w + t.cur.x + 1)
 else if k = 2 then qd t (t.cur.y * t.w) (t.cur.y * t.w + t.w)
 else t
def jX (t : Trm) (k : Int) : Trm :=
 if k = 0 then qd t (t.cur.y * t.w + t.cur.x) t.cells.length
 else if k = 1 then qd t 0 (t.cur.y * t.w + t.cur.x + 1)
 else if k = 2 \/ k = 3 then qd t 0 t.cells.length
 else t
def actT? (t : Trm) (b : Int) (n : Nums) : Option Trm :=
 let k := n.count 0
 if b = 65 then some (upT t k) else if b = 66 \/ b = 101 then some (kv t k) else if b = 67 \/ b = 97 then some (setX t (min (t.cur.x + k) (t.w - 1))) else if b = 68 then some (setX t (max (t.cur.x - k) 0))
 else if b = 69 then some (setX (kv t k) 0) else if b = 70 then some (setX (upT t k) 0) else if b = 71 \/ b = 96 then some (kx t k) else if b = 72 \/ b = 102 then some (kx (rowT t k) (n.count 1))
 else if b = 73 then some (jo t 1 k.toNat) else if b = 74 then some (jX t (n.list.getD 0 0)) else if b = 75 then some (jW t (n.list.getD 0 0)) else if b = 76 then some (qD t (-k)) else if b = 77 then some (qD t k)
 else if b = 80 then some (zJ t (-k)) else if b = 83 then some (zZ t t.top (t.bot + 1) k) else if b = 84 then some (zZ t t.top (t.bot + 1) (-k))
 else if b = 88 then some (qd t (t.cur.y * t.w + t.cur.x) (t.cur.y * t.w + t.cur.x + min k (t.w - t.cur.x))) else if b = 90 then some (jo t (-1) k.toNat)
 else if b = 64 then some (zJ t k) else if b = 100 then some (rowT t k) else if b = 114 then some (jp t n) else if b = 117 then some (jH t) else none
def actT (t : Trm) (b : Int) (n : Nums) : Trm :=
 if b = 103 then
  (if n.list.getD 0 0 = 0 then { t with stops := t.stops.set t.cur.x.toNat false } else if n.list.getD 0 0 = 3 then { t with stops := List.replicate t.stops.length false } else t)
 else if b = 115 then { t with sav := t.cur }
 else match actT? t b n with
  | some t' => { t' with pend := false }
  | none => t
def qu (t : Trm) (on : Bool) : List Int -> Trm
 | [] => t
 | k :: l => qu (qg t k on) on l
def jI (t0 : Trm) (b : Int) : Trm :=
 let t := { t0 with opn := -1 }
 let n := xh t.held
 if n.void = true then t
 else if n.prefix_ = 63 /\ (b = 104 \/ b = 108) then qu t (decide (b = 104)) n.list
 else if n.prefix_ ≠ 0 then t
 else if b = 109 then setSt t (qs t.cur.st n.list)
 else if b = 110 then ja t (n.list.getD 0 0)
 else if b = 99 then (if n.list.getD 0 0 = 0 then qC t ⟨#[63, 54, 99]⟩ else t)
 else if b = 104 \/ b = 108 then (if 4 ∈ n.list then { t with ins := decide (b = 104) } else t)
 else if 0 < t.w * t.h then actT t b n else t
def xz (s : ByteArray) : ByteArray := barr (zE (zH s))
def qE (t : Trm) : Trm :=
 let b := byL t.held
 if (b.getD 0 0 = 48 \/ b.getD 0 0 = 50) /\ b.getD 1 0 = 59 then { t with name := xz (t.held.extract 2 t.held.size) } else t
def zp (s : ByteArray) (b : Int) : ByteArray := s ++ ⟨#[UInt8.ofNat b.toNat]⟩
def qM (t : Trm) (b : Int) : Trm :=
 if b = 27 then { t with state := t.state + 2 }
 else if t.state = 5 then t
 else if b = 7 then { (qE t) with state := 0 }
 else if t.held.size < 1024 then { t with held := zp t.held b } else t
def jJ (t0 : Trm) (b : Int) : Trm :=
 let t1 := { t0 with state := 0 }
 let t := if b = 91 then { t1 with state := 3, held := zB } else if b = 93 then { t1 with state := 4, held := zB } else if b = 80 \/ b = 88 \/ b = 94 \/ b = 95 then { t1 with state := 5 }
  else if b = 99 then allW { newV t1.w t1.h with reps := t1.reps } else if b = 55 then { t1 with sav := t1.cur } else if b = 56 then jH t1 else t1
 if t.w * t.h = 0 then t
 else if b = 69 then { (zF (setX t 0)) with pend := false }
 else if b = 68 then { (zF t) with pend := false }
 else if b = 77 then { (qt t) with pend := false }
 else if b = 72 then { t with stops := t.stops.set t.cur.x.toNat true }
 else t
def goO (t : ByteArray) : Nat -> Nat -> Nat -> Nat -> Bool
 | 0, _, _, _ => false
 | f + 1, lo, hi, i => if i = t.size then true else if byt t i < lo \/ hi < byt t i then false else goO t f 128 191 (i + 1)
def qN (s : ByteArray) : Bool := decide (2 <= (ze (byt s 0)).1) && goO s ((ze (byt s 0)).1 - 1) (ze (byt s 0)).2.1 (ze (byt s 0)).2.2 1
def zL : Nat -> ByteArray -> List Int × ByteArray
 | 0, s => ([], zB)
 | f + 1, s =>
  if s.size = 0 then ([], zB)
  else if qN s = true then ([], s)
  else (((decB s).1 : Int) :: (zL f (s.extract (decB s).2 s.size)).1, (zL f (s.extract (decB s).2 s.size)).2)
def zq (s : ByteArray) : List Int × ByteArray := zL s.size s
def qh (t : Trm) (l : List Int) : Trm := l.foldl z6 t
def qS (t : Trm) (b : Int) : Trm := qh { t with kept := (zq (zp t.kept b)).2 } (zq (zp t.kept b)).1
def zw (t : Trm) (b : Int) : Trm :=
 if b = 27 then { t with state := 1 }
 else if b < 32 then qY t b
 else if b = 127 then t
 else if 127 < b then qS { t with state := 0 } b
 else if t.state = 3 then (if b < 64 then { t with held := zp t.held b } else jI { t with state := 0 } b)
 else if b < 48 then { t with state := 2 }
 else if t.state = 2 then { t with state := 0 }
 else jJ t b
def zD (t : Trm) (b : Int) : Trm :=
 if t.state = 0 then qS t b
 else if b = 24 \/ b = 26 then { t with state := 0 }
 else if t.state = 6 \/ t.state = 7 then
  (if b ≠ 92 then zw { t with state := 1 } b else if t.state = 6 then { (qE t) with state := 0 } else { t with state := 0 })
 else if t.state = 4 \/ t.state = 5 then qM t b
 else zw t b
def qJ (t : Trm) (l : List Int) : Trm := l.foldl zD t
def zO (t : Trm) : Scr := if t.shown = true /\ 0 < t.w * t.h then ⟨t.w, t.h, t.cells, t.cur.x, t.cur.y, true⟩ else ⟨t.w, t.h, t.cells, 0, 0, false⟩
end
section
open Go.RowKit
theorem jK (k : ByteArray) (b : Int) : (zp k b).size = k.size + 1 := by
 unfold zp
 rw [ByteArray.size_append]
 rfl
theorem JJ (k : ByteArray) (b : Int) (i : Nat) (h : i < k.size) : byt (zp k b) i = byt k i := by
 have h2 : i < (zp k b).size := by rw [jK]; omega
 unfold byt
 rw [kt _ _ h2, kt _ _ h]
 congr 1
 unfold zp
 exact ByteArray.getElem_append_left h
theorem push_new (k : ByteArray) (b : Int) (h : 0 <= b /\ b < 256) : byt (zp k b) k.size = b.toNat := by
 have h2 : k.size < (zp k b).size := by rw [jK]; omega
 unfold byt
 rw [kt _ _ h2]
 have e : (zp k b).data = k.data ++ #[UInt8.ofNat b.toNat] := by unfold zp; exact ByteArray.data_append
 have : (zp k b)[k.size] = UInt8.ofNat b.toNat := by
  obtain ⟨d⟩ := k
  show (zp ⟨d⟩ b).data[d.size]'_ = _
  simp only [e]
  exact Array.getElem_push_eq
 rw [this, UInt8.toNat_ofNat']
 omega
def jL (k : ByteArray) : Prop := k = zB \/ qN k = true
theorem JK {s : ByteArray} (h : qN s = true) : 0 < s.size := by
 unfold qN at h
 simp only [Bool.and_eq_true, decide_eq_true_eq] at h
 rcases Nat.eq_zero_or_pos s.size with z | z
 ·exfalso
  have e : s = zB := by
   apply ByteArray.ext
   have : s.data.size = 0 := z
   rw [Array.eq_empty_of_size_eq_zero this]
   rfl
  rw [e] at h
  exact absurd h.1 (by decide)
 ·exact z
def Dim (t t' : Trm) : Prop := t'.w = t.w /\ t'.h = t.h
theorem Dim.refl (t : Trm) : Dim t t := ⟨rfl, rfl⟩
theorem Dim.trans {a b c : Trm} (h : Dim a b) (k : Dim b c) : Dim a c := ⟨k.1.trans h.1, k.2.trans h.2⟩
theorem vT (t : Trm) (x y : Int) : Dim t (zg t x y) := by
 unfold zg
 split
 ·exact Dim.refl t
 ·exact ⟨rfl, rfl⟩
theorem vc (t : Trm) (f : Nat) : ∀ n, Dim t (zm t f n)
 | 0 => Dim.refl t
 | n + 1 => (vc t f n).trans ⟨rfl, rfl⟩
theorem ve (t : Trm) (f : Nat) : ∀ n, Dim t (zv t f n)
 | 0 => Dim.refl t
 | n + 1 => (ve t f n).trans ⟨rfl, rfl⟩
theorem vU (t : Trm) (f : Nat) (l : List Cel) : Dim t (zh t f l) := ⟨rfl, rfl⟩
theorem za4 (t : Trm) (f e n : Int) : Dim t (zZ t f e n) := by
 unfold zZ
 simp only
 split
 ·exact ((vU _ _ _).trans (vc _ _ _)).trans (ve _ _ _)
 ·exact ((vU _ _ _).trans (vc _ _ _)).trans (ve _ _ _)
theorem za5 (t : Trm) : Dim t (zF t) := by
 unfold zF
 split
 ·exact za4 _ _ _ _
 ·exact ⟨rfl, rfl⟩
theorem xj (t : Trm) : Dim t (zA t) := Dim.trans (b := setX { t with pend := false } 0) ⟨rfl, rfl⟩ (za5 _)
theorem JL (t : Trm) (n : Int) : Dim t (zJ t n) := by
 unfold zJ
 simp only
 split
 ·exact (((((vT _ _ _).trans (vT _ _ _)).trans (vU _ _ _)).trans (vc _ _ _)).trans (ve _ _ _))
 ·exact (((((vT _ _ _).trans (vT _ _ _)).trans (vU _ _ _)).trans (vc _ _ _)).trans (ve _ _ _))
structure StOk (t : Trm) : Prop where
 s0 : 0 <= t.state
 s7 : t.state <= 7
 kept : jL t.kept
end
section
open Go.RowKit
theorem goO_size (s : ByteArray) : ∀ f lo hi i, goO s f lo hi i = true -> s.size < i + f := by
 intro f
 induction f with
 | zero => intro lo hi i h; unfold goO at h; cases h
 | succ f ih =>
  intro lo hi i h
  unfold goO at h
  split at h
  ·omega
  ·split at h
   ·cases h
   ·have := ih _ _ _ h; omega
theorem ZS {s : ByteArray} (h : qN s = true) : s.size <= 3 := by
 unfold qN at h
 simp only [Bool.and_eq_true, decide_eq_true_eq] at h
 have := goO_size _ _ _ _ _ h.2
 have := vO (byt s 0)
 omega
theorem za6 : ∀ f s, s.size <= f -> jL (zL f s).2 := by
 intro f
 induction f with
 | zero => intro s h; exact Or.inl rfl
 | succ f ih =>
  intro s h
  unfold zL
  by_cases z : s.size = 0
  ·rw [if_pos z]; exact Or.inl rfl
  ·rw [if_neg z]
   by_cases o : qN s = true
   ·rw [if_pos o]; exact Or.inr o
   ·rw [if_neg o]
    have b := xf s (by omega)
    exact ih _ (by rw [ByteArray.size_extract]; omega)
theorem za7 (s : ByteArray) : jL (zq s).2 := za6 _ s zdA
theorem cert_len : ∀ f s, (zL f s).1.length <= f := by
 intro f
 induction f with
 | zero => intro s; exact zdA
 | succ f ih =>
  intro s
  unfold zL
  split
  ·exact Nat.zero_le _
  ·split
   ·exact Nat.zero_le _
   ·show _ + 1 <= _
    have := ih (s.extract (decB s).2 s.size)
    omega
theorem JM {k : ByteArray} (h : jL k) : k.size <= 3 := by
 rcases h with rfl | h
 ·exact Nat.zero_le _
 ·exact ZS h
structure Kst (t t' : Trm) : Prop where
 state : t'.state = t.state
 kept : t'.kept = t.kept
theorem Kst.refl (t : Trm) : Kst t t := ⟨rfl, rfl⟩
theorem Kst.trans {a b c : Trm} (h : Kst a b) (k : Kst b c) : Kst a c := ⟨k.1.trans h.1, k.2.trans h.2⟩
theorem xT (t : Trm) (x y : Int) : Kst t (zg t x y) := by unfold zg; split <;> exact ⟨rfl, rfl⟩
theorem ZT (t : Trm) (x y : Int) (s : ByteArray) (n : Int) (st : Sty) : Kst t (zI t x y s n st) := by
 have h := (xT t x y).trans (xT (zg t x y) (x + n) y)
 unfold zI
 simp only
 split <;> exact h.trans ⟨rfl, rfl⟩
theorem JN (t : Trm) (x : Int) : Kst t (qe t x) := by unfold qe; split <;> exact ⟨rfl, rfl⟩
theorem ky (t : Trm) (f : Nat) : ∀ n, Kst t (zm t f n)
 | 0 => Kst.refl t
 | n + 1 => (ky t f n).trans ⟨rfl, rfl⟩
theorem ZU (t : Trm) (f : Nat) : ∀ n, Kst t (zv t f n)
 | 0 => Kst.refl t
 | n + 1 => (ZU t f n).trans ⟨rfl, rfl⟩
theorem JO (t : Trm) (f : Nat) (l : List Cel) : Kst t (zh t f l) := ⟨rfl, rfl⟩
theorem vV (t : Trm) (f e n : Int) : Kst t (zZ t f e n) := by
 unfold zZ
 simp only
 split <;> exact ((JO _ _ _).trans (ky _ _ _)).trans (ZU _ _ _)
theorem vW (t : Trm) : Kst t (zF t) := by
 unfold zF
 split
 ·exact vV _ _ _ _
 ·exact ⟨rfl, rfl⟩
theorem za8 (t : Trm) : Kst t (qt t) := by
 unfold qt
 split
 ·exact vV _ _ _ _
 ·exact ⟨rfl, rfl⟩
theorem JP (t : Trm) : Kst t (zA t) := Kst.trans (b := setX { t with pend := false } 0) ⟨rfl, rfl⟩ (vW _)
theorem JQ (t : Trm) (n : Int) : Kst t (zJ t n) := by
 unfold zJ
 simp only
 split <;> exact (((((xT _ _ _).trans (xT _ _ _)).trans (JO _ _ _)).trans (ky _ _ _)).trans (ZU _ _ _))
theorem ZV (t : Trm) (f e : Int) : Kst t (qd t f e) := by
 unfold qd
 simp only
 split
 ·exact ((xT _ _ _).trans (xT _ _ _)).trans (ky _ _ _)
 ·exact (xT _ _ _).trans (ky _ _ _)
theorem JR (t : Trm) (s : ByteArray) : Kst t (zU t s) := by
 unfold zU
 simp only
 have h0 : Kst t { t with opn := -1 } := ⟨rfl, rfl⟩
 split
 ·exact h0
 ·have h1 : Kst t (if ({ t with opn := -1 } : Trm).pend = true then zA { t with opn := -1 } else { t with opn := -1 }) := by
   split
   ·exact h0.trans (JP _)
   ·exact h0
  generalize (if ({ t with opn := -1 } : Trm).pend = true then zA { t with opn := -1 } else { t with opn := -1 }) = t1 at *
  split
  ·exact h1
  ·have h2 : Kst t (if t1.w < t1.cur.x + zn s then zA t1 else t1) := by
    split
    ·exact h1.trans (JP _)
    ·exact h1
   generalize (if t1.w < t1.cur.x + zn s then zA t1 else t1) = t2 at *
   have h3 : Kst t (if t2.ins = true then zJ t2 (zn s) else t2) := by
    split
    ·exact h2.trans (JQ _ _)
    ·exact h2
   generalize (if t2.ins = true then zJ t2 (zn s) else t2) = t3 at *
   exact (Kst.trans (b := { t3 with opn := t3.cur.y * t3.w + t3.cur.x }) (h3.trans ⟨rfl, rfl⟩) (ZT _ _ _ _ _ _)).trans (JN _ _)
theorem ZW (t : Trm) (s : ByteArray) : Kst t (qf t s) := by
 unfold qf
 split
 ·split
  ·simp only
   split
   ·exact ZT _ _ _ _ _ _
   ·split
    ·exact (ZT _ _ _ _ _ _).trans (JN _ _)
    ·exact Kst.refl t
  ·exact JR t s
 ·exact JR t s
theorem kst_tab (t : Trm) (d : Int) : Kst t (tabT t d) := ⟨rfl, rfl⟩
theorem vX (t : Trm) (r : Int) : Kst t (qY t r) := by
 have h0 : Kst t { t with opn := -1 } := ⟨rfl, rfl⟩
 unfold qY
 simp only
 repeat' split
 all_goals first
 | exact h0
 | exact ⟨rfl, rfl⟩
 | exact (h0.trans (vW _)).trans ⟨rfl, rfl⟩
structure Stk (t t' : Trm) : Prop where
 kept : t'.kept = t.kept
 state : t'.state = t.state \/ t'.state = 1
theorem Kst.stk {t t' : Trm} (h : Kst t t') : Stk t t' := ⟨h.kept, Or.inl h.state⟩
theorem stk_rune (t : Trm) (r : Int) : Stk t (z6 t r) := by
 unfold z6
 split
 ·exact ⟨rfl, Or.inr rfl⟩
 ·split
  ·exact (vX t r).stk
  ·split
   ·exact (ZW _ _).stk
   ·exact (Kst.refl t).stk
theorem za9 (l : List Int) : ∀ t : Trm, (qh t l).kept = t.kept /\ ((qh t l).state = t.state \/ (qh t l).state = 1) := by
 induction l with
 | nil => intro t; exact ⟨rfl, Or.inl rfl⟩
 | cons r l ih =>
  intro t
  have a := stk_rune t r
  have b := ih (z6 t r)
  show (qh (z6 t r) l).kept = _ /\ _
  refine ⟨b.1.trans a.kept, ?_⟩
  show (qh (z6 t r) l).state = t.state \/ (qh (z6 t r) l).state = 1
  rcases b.2 with b | b
  ·rcases a.state with a | a
   ·exact Or.inl (b.trans a)
   ·exact Or.inr (b.trans a)
  ·exact Or.inr b
theorem Z1 (t : Trm) (b : Int) (h : t.state = 0) : StOk (qS t b) := by
 unfold qS
 have q := za9 (zq (zp t.kept b)).1 { t with kept := (zq (zp t.kept b)).2 }
 obtain ⟨q1, q2⟩ := q
 have q2 : (qh { t with kept := (zq (zp t.kept b)).2 } (zq (zp t.kept b)).1).state = t.state \/ (qh { t with kept := (zq (zp t.kept b)).2 } (zq (zp t.kept b)).1).state = 1 := q2
 exact ⟨by omega, by omega, by rw [q1]; exact za7 _⟩
theorem Z2 (t : Trm) (s : ByteArray) : Kst t (qC t s) := by unfold qC; split <;> exact ⟨rfl, rfl⟩
theorem zba (t : Trm) (k : Int) : Kst t (ja t k) := by
 unfold ja
 split
 ·exact Z2 _ _
 ·split
  ·exact Z2 _ _
  ·exact Kst.refl t
theorem kst_mode (t : Trm) (k : Int) (on : Bool) : Kst t (qg t k on) := by
 unfold qg
 simp only
 repeat' split
 all_goals first
 | exact ⟨rfl, rfl⟩
 | exact (Kst.trans (b := { (allW { t with pend := false, alt := on, cells := t.away, away := t.cells }) with sav := t.cur }) ⟨rfl, rfl⟩ (ky _ _ _))
theorem JS (on : Bool) : ∀ (l : List Int) (t : Trm), Kst t (qu t on l)
 | [], t => Kst.refl t
 | k :: l, t => (kst_mode t k on).trans (JS on l _)
theorem JT (t : Trm) (d : Int) : ∀ n, Kst t (jo t d n)
 | 0 => Kst.refl t
 | n + 1 => (JT t d n).trans (kst_tab _ _)
theorem zbb (t : Trm) (n : Int) : Kst t (qD t n) := by
 unfold qD
 split
 ·exact (vV _ _ _ _).trans ⟨rfl, rfl⟩
 ·exact Kst.refl t
theorem zbc (t : Trm) (k : Int) : Kst t (jW t k) := by
 unfold jW
 repeat' split
 all_goals first
 | exact ZV _ _ _
 | exact Kst.refl t
theorem zbd (t : Trm) (k : Int) : Kst t (jX t k) := by
 unfold jX
 repeat' split
 all_goals first
 | exact ZV _ _ _
 | exact Kst.refl t
theorem zbe (t : Trm) (n : Nums) : Kst t (jp t n) := by
 unfold jp
 simp only
 repeat' split
 all_goals exact ⟨rfl, rfl⟩
theorem Z3 {P : Trm -> Prop} {c : Prop} [Decidable c] {x : Trm} {r : Option Trm} (h1 : P x) (h2 : ∀ t', r = some t' -> P t') : ∀ t', (if c then some x else r) = some t' -> P t' := by
 intro t' h
 split at h
 ·cases h; exact h1
 ·exact h2 t' h
theorem Z4? (t : Trm) (b : Int) (n : Nums) : ∀ t', actT? t b n = some t' -> Kst t t' := by
 unfold actT?
 simp only
 repeat (refine Z3 (P := Kst t) (by first | exact ⟨rfl, rfl⟩ | exact JT _ _ _ | exact zbd _ _ | exact zbc _ _ | exact zbb _ _ | exact JQ _ _ | exact vV _ _ _ _ | exact ZV _ _ _ | exact zbe _ _) ?_)
 intro t' h
 cases h
theorem Z4 (t : Trm) (b : Int) (n : Nums) : Kst t (actT t b n) := by
 unfold actT
 split
 ·repeat' split
  all_goals exact ⟨rfl, rfl⟩
 ·split
  ·exact ⟨rfl, rfl⟩
  ·cases h : actT? t b n with
   | none => exact Kst.refl t
   | some t' =>
    have := Z4? t b n t' h
    exact ⟨this.state, this.kept⟩
theorem zbf (t : Trm) (b : Int) : Kst t (jI t b) := by
 have h0 : Kst t { t with opn := -1 } := ⟨rfl, rfl⟩
 unfold jI
 simp only
 repeat' split
 all_goals first
 | exact h0
 | exact h0.trans (JS _ _ _)
 | exact ⟨rfl, rfl⟩
 | exact h0.trans (zba _ _)
 | exact h0.trans (Z2 _ _)
 | exact h0.trans (Z4 _ _ _)
theorem zbg (t : Trm) : Kst t (qE t) := by
 unfold qE
 simp only
 split <;> exact ⟨rfl, rfl⟩
theorem zbh (t : Trm) (b : Int) (h : StOk t) : StOk (jJ t b) := by
 have z : jL zB := Or.inl rfl
 have key : ∀ u : Trm, StOk u -> StOk (if u.w * u.h = 0 then u else if b = 69 then { (zF (setX u 0)) with pend := false } else if b = 68 then { (zF u) with pend := false } else if b = 77 then { (qt u) with pend := false } else if b = 72 then { u with stops := u.stops.set u.cur.x.toNat true } else u) := by
  intro u hu
  have i1 := vW (setX u 0)
  have i2 := vW u
  have i3 := za8 u
  repeat' split
  ·exact hu
  ·exact ⟨by show 0 <= (zF (setX u 0)).state; rw [i1.state]; exact hu.s0, by show (zF (setX u 0)).state <= 7; rw [i1.state]; exact hu.s7, by show jL (zF (setX u 0)).kept; rw [i1.kept]; exact hu.kept⟩
  ·exact ⟨by show 0 <= (zF u).state; rw [i2.state]; exact hu.s0, by show (zF u).state <= 7; rw [i2.state]; exact hu.s7, by show jL (zF u).kept; rw [i2.kept]; exact hu.kept⟩
  ·exact ⟨by show 0 <= (qt u).state; rw [i3.state]; exact hu.s0, by show (qt u).state <= 7; rw [i3.state]; exact hu.s7, by show jL (qt u).kept; rw [i3.kept]; exact hu.kept⟩
  ·exact ⟨hu.s0, hu.s7, hu.kept⟩
  ·exact hu
 unfold jJ
 simp only
 refine key _ ?_
 have m : ∀ (n : Int) (k : ByteArray) (u : Trm), u.state = n -> u.kept = k -> 0 <= n -> n <= 7 -> jL k -> StOk u := fun n k u e1 e2 h1 h2 h3 => ⟨by omega, by omega, by rw [e2]; exact h3⟩
 repeat' split
 ·exact m 3 t.kept _ rfl rfl (by decide) (by decide) h.kept
 ·exact m 4 t.kept _ rfl rfl (by decide) (by decide) h.kept
 ·exact m 5 t.kept _ rfl rfl (by decide) (by decide) h.kept
 ·exact m 0 zB _ rfl rfl (by decide) (by decide) z
 ·exact m 0 t.kept _ rfl rfl (by decide) (by decide) h.kept
 ·exact m 0 t.kept _ rfl rfl (by decide) (by decide) h.kept
 ·exact m 0 t.kept _ rfl rfl (by decide) (by decide) h.kept
theorem Z5 (t : Trm) (b : Int) (h : StOk t) : StOk (zw t b) := by
 have m : ∀ (n : Int) (u : Trm), u.state = n -> u.kept = t.kept -> 0 <= n -> n <= 7 -> StOk u := fun n u e1 e2 h1 h2 => ⟨by omega, by omega, by rw [e2]; exact h.kept⟩
 have c := vX t b
 have q := zbf { t with state := 0 } b
 unfold zw
 repeat' split
 ·exact m 1 _ rfl rfl (by decide) (by decide)
 ·exact m t.state _ c.state c.kept h.s0 h.s7
 ·exact h
 ·exact Z1 _ _ rfl
 ·exact m t.state _ rfl rfl h.s0 h.s7
 ·exact m 0 _ q.state q.kept (by decide) (by decide)
 ·exact m 2 _ rfl rfl (by decide) (by decide)
 ·exact m 0 _ rfl rfl (by decide) (by decide)
 ·exact zbh t b h
theorem take_ok (t : Trm) (b : Int) (h : StOk t) : StOk (zD t b) := by
 have m : ∀ (n : Int) (u : Trm), u.state = n -> u.kept = t.kept -> 0 <= n -> n <= 7 -> StOk u := fun n u e1 e2 h1 h2 => ⟨by omega, by omega, by rw [e2]; exact h.kept⟩
 have s0 := h.s0
 have s7 := h.s7
 have tk := zbg t
 unfold zD
 split
 ·rename_i e; exact Z1 t b e
 ·split
  ·exact m 0 _ rfl rfl (by decide) (by decide)
  ·split
   ·split
    ·exact Z5 _ b (m 1 _ rfl rfl (by decide) (by decide))
    ·split
     ·exact m 0 _ rfl tk.kept (by decide) (by decide)
     ·exact m 0 _ rfl rfl (by decide) (by decide)
   ·split
    ·rename_i e
     unfold qM
     split
     ·exact m (t.state + 2) _ rfl rfl (by omega) (by omega)
     ·split
      ·exact h
      ·split
       ·exact m 0 _ rfl tk.kept (by decide) (by decide)
       ·split
        ·exact m t.state _ rfl rfl s0 s7
        ·exact h
    ·exact Z5 t b h
theorem new_ok (w h : Int) : StOk (newV w h) := ⟨Int.le_refl 0, by show (0 : Int) <= 7; decide, Or.inl rfl⟩
end
section
open Go.RowKit
theorem JU : ∀ (n : Nat) (l : List Int), l.length <= n -> ∀ c ∈ clL l, c.1.length <= 64 /\ (c.2 = 0 \/ c.2 = 1 \/ c.2 = 2) := by
 intro n
 induction n with
 | zero => intro l h c hc; rw [List.length_eq_zero_iff.1 (by omega : l.length = 0), vR] at hc; cases hc
 | succ n ih =>
  intro l h c hc
  by_cases e : l = []
  ·rw [e, vR] at hc; cases hc
  ·obtain ⟨f1, f2, f3⟩ := xR l e
   rw [vS l e] at hc
   rcases List.mem_cons.1 hc with rfl | m
   ·have := ZO (l.take (zu l))
    rw [List.length_take] at this
    exact ⟨by show (zE (l.take (zu l))).length <= 64; omega, JI _⟩
   ·exact ih _ (by rw [List.length_drop]; omega) c m
theorem JV (s : ByteArray) : ∀ c ∈ qn s, c.1.size <= 64 /\ (c.2 = 0 \/ c.2 = 1 \/ c.2 = 2) := by
 intro c hc
 unfold qn at hc
 obtain ⟨d, hd, rfl⟩ := List.mem_map.1 hc
 obtain ⟨a, b⟩ := JU _ _ zdA d hd
 refine ⟨?_, b⟩
 show (barr d.1).size <= 64
 unfold barr
 simp [ByteArray.size]
 exact a
structure Fine (t : Trm) : Prop where
 w0 : 0 <= t.w
 w1 : t.w <= 4096
 h0 : 0 <= t.h
 h1 : t.h <= 4096
 ar : t.w * t.h <= 1048576
 cl : (t.cells.length : Int) = t.w * t.h
 al : (t.away.length : Int) = t.w * t.h
 wl : (t.wrt.length : Int) = t.w * t.h
 sl : (t.stops.length : Int) = t.w
 x0 : 0 <= t.cur.x
 y0 : 0 <= t.cur.y
 cx : t.cur.x < t.w \/ t.cur.x = 0
 cy : t.cur.y < t.h \/ t.cur.y = 0
 p0 : 0 <= t.top
 p1 : t.top <= t.bot \/ t.h = 0 /\ t.top = 0
 p2 : t.bot < t.h
def zk (t : Trm) : Prop := 0 < t.w /\ 0 < t.h
theorem Fine.some {t : Trm} (h : Fine t) (n : ¬ t.w * t.h = 0) : zk t := by
 have a := h.w0
 have b := h.h0
 refine ⟨?_, ?_⟩
 ·rcases Int.lt_or_eq_of_le a with c | c
  ·exact c
  ·exfalso; apply n; rw [<- c]; exact Int.zero_mul _
 ·rcases Int.lt_or_eq_of_le b with c | c
  ·exact c
  ·exfalso; apply n; rw [<- c]; exact Int.mul_zero _
theorem Fine.row {t : Trm} (h : Fine t) {y : Int} (y0 : 0 <= y) (y1 : y < t.h) : 0 <= y * t.w /\ y * t.w + t.w <= t.w * t.h := by
 have a := h.w0
 refine ⟨Int.mul_nonneg y0 a, ?_⟩
 have e : y * t.w + t.w = (y + 1) * t.w := by rw [Int.add_mul, Int.one_mul]
 rw [e, Int.mul_comm t.w t.h]
 exact Int.mul_le_mul_of_nonneg_right (by omega) a
structure Cw (t t' : Trm) : Prop where
 eq : t' = { t with cells := t'.cells, wrt := t'.wrt }
 cl : t'.cells.length = t.cells.length
 wl : t'.wrt.length = t.wrt.length
theorem Cw.refl (t : Trm) : Cw t t := ⟨rfl, rfl, rfl⟩
theorem Cw.trans {a b c : Trm} (h : Cw a b) (k : Cw b c) : Cw a c := by
 obtain ⟨e, h1, h2⟩ := h
 obtain ⟨f, k1, k2⟩ := k
 refine ⟨?_, k1.trans h1, k2.trans h2⟩
 rw [f, e]
theorem Cw.w {t t' : Trm} (h : Cw t t') : t'.w = t.w := by rw [h.eq]
theorem Cw.h {t t' : Trm} (h : Cw t t') : t'.h = t.h := by rw [h.eq]
theorem Cw.cur {t t' : Trm} (h : Cw t t') : t'.cur = t.cur := by rw [h.eq]
theorem Cw.opn {t t' : Trm} (h : Cw t t') : t'.opn = t.opn := by rw [h.eq]
theorem Cw.held {t t' : Trm} (h : Cw t t') : t'.held = t.held := by rw [h.eq]
theorem Cw.reps {t t' : Trm} (h : Cw t t') : t'.reps = t.reps := by rw [h.eq]
theorem Fine.cw {t t' : Trm} (h : Fine t) (k : Cw t t') : Fine t' := by
 obtain ⟨e, a, b⟩ := k
 generalize t'.cells = c at *
 generalize t'.wrt = u at *
 subst e
 exact ⟨h.w0, h.w1, h.h0, h.h1, h.ar, by show (c.length : Int) = _; rw [a]; exact h.cl, h.al, by show (u.length : Int) = _; rw [b]; exact h.wl, h.sl, h.x0, h.y0, h.cx, h.cy, h.p0, h.p1, h.p2⟩
theorem Cw.some {t t' : Trm} (h : Cw t t') (p : zk t) : zk t' := by unfold zk at p ⊢; rw [h.w, h.h]; exact p
theorem xB (t : Trm) (i : Nat) (c : Cel) : Cw t (putT t i c) := ⟨rfl, List.length_set, List.length_set⟩
theorem qv (t : Trm) (x y : Int) : Cw t (zg t x y) := by
 unfold zg
 split
 ·exact Cw.refl t
 ·exact (xB _ _ _).trans (xB _ _ _)
theorem jR (t : Trm) (x y : Int) (s : ByteArray) (n : Int) (st : Sty) : Cw t (zI t x y s n st) := by
 have h := (qv t x y).trans (qv (zg t x y) (x + n) y)
 unfold zI
 simp only
 split
 ·exact (h.trans (xB _ _ _)).trans (xB _ _ _)
 ·exact h.trans (xB _ _ _)
theorem jz (t : Trm) (f : Nat) : ∀ n, Cw t (zm t f n)
 | 0 => Cw.refl t
 | n + 1 => (jz t f n).trans (xB _ _ _)
theorem jb (t : Trm) (f : Nat) : ∀ n, Cw t (zv t f n)
 | 0 => Cw.refl t
 | n + 1 => (jb t f n).trans ⟨rfl, rfl, List.length_set⟩
theorem xC (t : Trm) (f : Nat) (l : List Cel) (h : l.length <= t.cells.length - f) : Cw t (zh t f l) := by
 refine ⟨rfl, ?_, rfl⟩
 unfold zh
 simp only [List.length_append, List.length_take, List.length_drop]
 omega
theorem Z6 (l : List Cel) (k : Nat) (h : k <= l.length) : (upL' l k).length = l.length := by
 unfold upL'
 simp only [List.length_append, List.length_drop]
 omega
theorem Z7 (l : List Cel) (k : Nat) (h : k <= l.length) : (ku l k).length = l.length := by
 unfold ku
 simp only [List.length_append, List.length_take]
 omega
theorem Z8 (l : List Cel) (a n : Nat) : ((l.drop a).take n).length <= l.length - a := by
 simp only [List.length_take, List.length_drop]
 omega
theorem jY (t : Trm) (f e n : Int) : Cw t (zZ t f e n) := by
 unfold zZ
 simp only
 have q := Z8 t.cells (f * t.w).toNat ((e * t.w).toNat - (f * t.w).toNat)
 generalize hl : (t.cells.drop (f * t.w).toNat).take ((e * t.w).toNat - (f * t.w).toNat) = l at *
 split
 ·exact ((xC _ _ _ (by rw [Z6 _ _ (by omega)]; exact q)).trans (jz _ _ _)).trans (jb _ _ _)
 ·exact ((xC _ _ _ (by rw [Z7 _ _ (by omega)]; exact q)).trans (jz _ _ _)).trans (jb _ _ _)
theorem kz (t : Trm) (f e : Int) : Cw t (qd t f e) := by
 unfold qd
 simp only
 split
 ·exact ((qv _ _ _).trans (qv _ _ _)).trans (jz _ _ _)
 ·exact (qv _ _ _).trans (jz _ _ _)
theorem vg (t : Trm) (n : Int) (h : Fine t) (p : zk t) : Cw t (zJ t n) := by
 have r := h.row h.y0 (by have := h.cy; have := p.2; omega)
 have e : (t.cur.y + 1) * t.w = t.cur.y * t.w + t.w := by rw [Int.add_mul, Int.one_mul]
 have x0 := h.x0
 have xw : t.cur.x < t.w := by have := h.cx; have := p.1; omega
 have cl := h.cl
 unfold zJ
 simp only
 rw [e]
 split
 ·have c := (qv t t.cur.x t.cur.y).trans (qv (zg t t.cur.x t.cur.y) (t.w - min n (((t.cur.y * t.w + t.w).toNat - (t.cur.y * t.w + t.cur.x).toNat : Nat) : Int)) t.cur.y)
  generalize zg (zg t t.cur.x t.cur.y) (t.w - min n (((t.cur.y * t.w + t.w).toNat - (t.cur.y * t.w + t.cur.x).toNat : Nat) : Int)) t.cur.y = u at *
  have ul := c.cl
  refine c.trans (((xC _ _ _ ?_).trans (jz _ _ _)).trans (jb _ _ _))
  rw [Z7 _ _ (by simp only [List.length_take, List.length_drop]; omega)]
  exact Z8 _ _ _
 ·have c := (qv t t.cur.x t.cur.y).trans (qv (zg t t.cur.x t.cur.y) (t.cur.x + min (-n) (((t.cur.y * t.w + t.w).toNat - (t.cur.y * t.w + t.cur.x).toNat : Nat) : Int)) t.cur.y)
  generalize zg (zg t t.cur.x t.cur.y) (t.cur.x + min (-n) (((t.cur.y * t.w + t.w).toNat - (t.cur.y * t.w + t.cur.x).toNat : Nat) : Int)) t.cur.y = u at *
  have ul := c.cl
  refine c.trans (((xC _ _ _ ?_).trans (jz _ _ _)).trans (jb _ _ _))
  rw [Z6 _ _ (by simp only [List.length_take, List.length_drop]; omega)]
  exact Z8 _ _ _
theorem kA {t t' : Trm} (h : Fine t) (e : t' = { t with cur := t'.cur, pend := t'.pend, opn := t'.opn, state := t'.state, held := t'.held, kept := t'.kept, reps := t'.reps, name := t'.name, ins := t'.ins, wrap := t'.wrap, shown := t'.shown, alt := t'.alt, sav := t'.sav }) (x0 : 0 <= t'.cur.x) (y0 : 0 <= t'.cur.y) (cx : t'.cur.x < t.w \/ t'.cur.x = 0) (cy : t'.cur.y < t.h \/ t'.cur.y = 0) : Fine t' := by
 have ew : t'.w = t.w := by rw [e]
 have eh : t'.h = t.h := by rw [e]
 have ec : t'.cells = t.cells := by rw [e]
 have ea : t'.away = t.away := by rw [e]
 have eu : t'.wrt = t.wrt := by rw [e]
 have es : t'.stops = t.stops := by rw [e]
 have et : t'.top = t.top := by rw [e]
 have eb : t'.bot = t.bot := by rw [e]
 exact ⟨by rw [ew]; exact h.w0, by rw [ew]; exact h.w1, by rw [eh]; exact h.h0, by rw [eh]; exact h.h1, by rw [ew, eh]; exact h.ar, by rw [ec, ew, eh]; exact h.cl, by rw [ea, ew, eh]; exact h.al, by rw [eu, ew, eh]; exact h.wl, by rw [es, ew]; exact h.sl, x0, y0, by rw [ew]; exact cx, by rw [eh]; exact cy, by rw [et]; exact h.p0, by rw [et, eb, eh]; exact h.p1, by rw [eb, eh]; exact h.p2⟩
theorem Fine.still {t t' : Trm} (h : Fine t) (e : t' = { t with cur := t'.cur, pend := t'.pend, opn := t'.opn, state := t'.state, held := t'.held, kept := t'.kept, reps := t'.reps, name := t'.name, ins := t'.ins, wrap := t'.wrap, shown := t'.shown, alt := t'.alt, sav := t'.sav }) (ex : t'.cur.x = t.cur.x) (ey : t'.cur.y = t.cur.y) : Fine t' :=
 kA h e (by rw [ex]; exact h.x0) (by rw [ey]; exact h.y0) (by rw [ex]; exact h.cx) (by rw [ey]; exact h.cy)
theorem jq {t : Trm} (h : Fine t) (x : Int) (x0 : 0 <= x) (cx : x < t.w \/ x = 0) : Fine (setX t x) := kA h rfl x0 h.y0 cx h.cy
theorem vh {t : Trm} (h : Fine t) (y : Int) (y0 : 0 <= y) (cy : y < t.h \/ y = 0) : Fine (setY t y) := kA h rfl h.x0 y0 h.cx cy
theorem jM {t : Trm} (h : Fine t) (b : Bool) : Fine { t with pend := b } := h.still rfl rfl rfl
theorem jc {t : Trm} (h : Fine t) (o : Int) : Fine { t with opn := o } := h.still rfl rfl rfl
theorem vY {t : Trm} (h : Fine t) (p : zk t) : Fine (zF t) := by
 unfold zF
 split
 ·exact h.cw (jY _ _ _ _)
 ·have := p.2
  have := h.y0
  exact vh h _ (by omega) (by omega)
theorem zbi {t : Trm} (h : Fine t) (p : zk t) : Fine (qt t) := by
 unfold qt
 split
 ·exact h.cw (jY _ _ _ _)
 ·have := p.2
  have := h.cy
  exact vh h _ (by omega) (by omega)
theorem xD {t t' : Trm} (d : Dim t t') (p : zk t) : zk t' := by unfold zk at p ⊢; rw [d.1, d.2]; exact p
theorem kB {t : Trm} (h : Fine t) (p : zk t) : Fine (zA t) := by
 unfold zA
 exact vY (jq (jM h _) 0 (Int.le_refl _) (Or.inr rfl)) p
theorem JW (t : Trm) (d : Int) : ∀ f x, 0 <= x -> (x < t.w \/ x = 0) -> 0 <= tabF t d f x /\ (tabF t d f x < t.w \/ tabF t d f x = 0)
 | 0, x, h, k => ⟨h, k⟩
 | f + 1, x, h, k => by
  unfold tabF
  by_cases c : x + d < 0 \/ t.w <= x + d
  ·rw [if_pos c]; exact ⟨h, k⟩
  ·rw [if_neg c]
   split
   ·exact ⟨by omega, by omega⟩
   ·exact JW t d f (x + d) (by omega) (by omega)
theorem JY {t : Trm} (h : Fine t) (d : Int) : Fine (tabT t d) := by
 unfold tabT
 have := JW t d (t.w.toNat + 1) t.cur.x h.x0 h.cx
 exact jq h _ this.1 this.2
theorem vZ {t : Trm} (h : Fine t) (d : Int) : ∀ n, Fine (jo t d n)
 | 0 => h
 | n + 1 => JY (vZ h d n) d
theorem Za {t : Trm} (h : Fine t) : Fine (jH t) := by
 have a := h.w0
 have b := h.h0
 by_cases c : t.w * t.h = 0
 ·exact kA h rfl (by show 0 <= (if t.w * t.h = 0 then (0 : Int) else _); rw [if_pos c]; exact Int.le_refl 0) (by show 0 <= (if t.w * t.h = 0 then (0 : Int) else _); rw [if_pos c]; exact Int.le_refl 0) (Or.inr (if_pos c)) (Or.inr (if_pos c))
 ·obtain ⟨p, q⟩ := h.some c
  have ex : (jH t).cur.x = max 0 (min t.sav.x (t.w - 1)) := if_neg c
  have ey : (jH t).cur.y = max 0 (min t.sav.y (t.h - 1)) := if_neg c
  exact kA h rfl (by rw [ex]; omega) (by rw [ey]; omega) (Or.inl (by rw [ex]; omega)) (Or.inl (by rw [ey]; omega))
theorem JZ {t : Trm} (h : Fine t) : Fine (jV t) := by
 have p0 := h.p0
 have p1 := h.p1
 have p2 := h.p2
 unfold jV
 refine kA h rfl (Int.le_refl 0) ?_ (Or.inr rfl) ?_
 ·show 0 <= (if t.cur.org = true then t.top else 0); split <;> omega
 ·show (if t.cur.org = true then t.top else 0) < t.h \/ (if t.cur.org = true then t.top else 0) = 0; split <;> omega
theorem J0 {t : Trm} (h : Fine t) (p : zk t) (x : Int) (x0 : 0 <= x) : Fine (qe t x) := by
 have := p.1
 unfold qe
 split
 ·exact jM (jq h _ (by omega) (by omega)) _
 ·exact jq h _ x0 (by omega)
theorem J1 {t : Trm} (h : Fine t) (r : Int) : Fine (qY t r) := by
 have x0 := h.x0
 have cx := h.cx
 have h0 : Fine { t with opn := -1 } := jc h _
 unfold qY
 simp only
 by_cases c : t.w * t.h = 0
 ·rw [if_pos c]; exact jc h _
 ·rw [if_neg c]
  have p := h.some c
  repeat' split
  ·exact jM (jq h0 _ (by show 0 <= max 0 (t.cur.x - 1); omega) (by show max 0 (t.cur.x - 1) < t.w \/ max 0 (t.cur.x - 1) = 0; omega)) _
  ·exact jM (JY h0 1) _
  ·exact jM (vY h0 p) _
  ·exact jM (jq h0 0 (Int.le_refl 0) (Or.inr rfl)) _
  ·exact jc h _
theorem width_nn (s : ByteArray) : 0 <= zn s := by
 unfold zn
 have q : ∀ c ∈ qn s, 0 <= c.2 := fun c hc => by have := (JV s c hc).2; omega
 generalize qn s = l at *
 induction l with
 | nil => exact Int.le_refl 0
 | cons a r ih =>
  have a1 := q a (by simp)
  have a2 := ih (fun x hx => q x (by simp [hx]))
  simp only [List.map_cons, List.sum_cons]
  omega
theorem J4 {t : Trm} (h : Fine t) (p : zk t) (s : ByteArray) : Fine (zU t s) := by
 have n0 := width_nn s
 unfold zU
 simp only
 have h0 : Fine { t with opn := -1 } := jc h _
 have d0 : Dim t { t with opn := -1 } := ⟨rfl, rfl⟩
 split
 ·exact h0
 ·have h1 : Fine (if ({ t with opn := -1 } : Trm).pend = true then zA { t with opn := -1 } else { t with opn := -1 }) /\ Dim t (if ({ t with opn := -1 } : Trm).pend = true then zA { t with opn := -1 } else { t with opn := -1 }) := by
   split
   ·exact ⟨kB h0 p, d0.trans (xj _)⟩
   ·exact ⟨h0, d0⟩
  generalize (if ({ t with opn := -1 } : Trm).pend = true then zA { t with opn := -1 } else { t with opn := -1 }) = t1 at *
  obtain ⟨h1, d1⟩ := h1
  split
  ·exact h1
  ·have h2 : Fine (if t1.w < t1.cur.x + zn s then zA t1 else t1) /\ Dim t (if t1.w < t1.cur.x + zn s then zA t1 else t1) := by
    split
    ·exact ⟨kB h1 (xD d1 p), d1.trans (xj _)⟩
    ·exact ⟨h1, d1⟩
   generalize (if t1.w < t1.cur.x + zn s then zA t1 else t1) = t2 at *
   obtain ⟨h2, d2⟩ := h2
   have h3 : Fine (if t2.ins = true then zJ t2 (zn s) else t2) /\ Dim t (if t2.ins = true then zJ t2 (zn s) else t2) := by
    split
    ·exact ⟨h2.cw (vg _ _ h2 (xD d2 p)), d2.trans (JL _ _)⟩
    ·exact ⟨h2, d2⟩
   generalize (if t2.ins = true then zJ t2 (zn s) else t2) = t3 at *
   obtain ⟨h3, d3⟩ := h3
   have h4 := jc h3 (t3.cur.y * t3.w + t3.cur.x)
   have c := jR { t3 with opn := t3.cur.y * t3.w + t3.cur.x } t3.cur.x t3.cur.y s (zn s) t3.cur.st
   have x0 := h3.x0
   exact J0 (h4.cw c) (c.some (xD d3 p)) _ (by show 0 <= t3.cur.x + zn s; omega)
theorem zbj {t : Trm} (h : Fine t) (p : zk t) (s : ByteArray) : Fine (qf t s) := by
 unfold qf
 split
 ·split
  ·simp only
   split
   ·exact h.cw (jR _ _ _ _ _ _)
   ·split
    ·have q : 0 <= t.opn % t.w := Int.emod_nonneg _ (by have := p.1; omega)
     exact J0 (h.cw (jR _ _ _ _ _ _)) ((jR _ _ _ _ _ _).some p) _ (by omega)
    ·exact h
  ·exact J4 h p s
 ·exact J4 h p s
theorem kC {t : Trm} (h : Fine t) (c : 0 < t.w * t.h) : zk t := h.some (by omega)
theorem J5 {t : Trm} (h : Fine t) (r : Int) : Fine (z6 t r) := by
 unfold z6
 split
 ·exact h.still rfl rfl rfl
 ·split
  ·exact J1 h r
  ·split
   ·rename_i c; exact zbj h (kC h c) _
   ·exact h
theorem Z9 : ∀ (l : List Int) {t : Trm}, Fine t -> Fine (qh t l)
 | [], t, h => h
 | r :: l, t, h => Z9 l (t := z6 t r) (J5 h r)
theorem Qa {t : Trm} (h : Fine t) (b : Int) : Fine (qS t b) := by
 unfold qS
 exact Z9 _ (h.still rfl rfl rfl)
theorem Qb {t : Trm} (h : Fine t) (s : ByteArray) : Fine (qC t s) := by
 unfold qC
 split
 ·exact h.still rfl rfl rfl
 ·exact h
theorem zbk {t : Trm} (h : Fine t) (k : Int) : Fine (ja t k) := by
 unfold ja
 split
 ·exact Qb h _
 ·split
  ·exact Qb h _
  ·exact h
theorem J6 {t : Trm} (h : Fine t) (u : Trm) (e : u = { t with cells := t.away, away := t.cells, wrt := List.replicate t.wrt.length true, pend := u.pend, alt := u.alt, sav := u.sav }) : Fine u := by
 rw [e]
 exact ⟨h.w0, h.w1, h.h0, h.h1, h.ar, h.al, h.cl, by show ((List.replicate t.wrt.length true).length : Int) = _; rw [List.length_replicate]; exact h.wl, h.sl, h.x0, h.y0, h.cx, h.cy, h.p0, h.p1, h.p2⟩
theorem zbl {t : Trm} (h : Fine t) (k : Int) (on : Bool) : Fine (qg t k on) := by
 unfold qg
 simp only
 split
 ·exact jM (JZ (t := { t with cur := { t.cur with org := on } }) (h.still rfl rfl rfl)) _
 ·split
  ·exact h.still rfl rfl rfl
  ·split
   ·exact h.still rfl rfl rfl
   ·split
    ·split
     ·exact h.still rfl rfl rfl
     ·split
      ·exact (J6 h _ rfl).cw (jz _ _ _)
      ·exact Za (J6 h _ rfl)
    ·exact h
theorem Qc (on : Bool) : ∀ (l : List Int) {t : Trm}, Fine t -> Fine (qu t on l)
 | [], t, h => h
 | k :: l, t, h => Qc on l (zbl h k on)
theorem fine_up {t : Trm} (h : Fine t) (p : zk t) (k : Int) (k1 : 0 <= k) : Fine (upT t k) := by
 have := h.y0
 have := h.cy
 have := h.p0
 have := p.2
 unfold upT
 refine vh h _ ?_ ?_ <;> split <;> omega
theorem zbm {t : Trm} (h : Fine t) (p : zk t) (k : Int) (k1 : 0 <= k) : Fine (kv t k) := by
 have := h.y0
 have := h.cy
 have := h.p2
 have := p.2
 unfold kv
 refine vh h _ ?_ ?_ <;> split <;> omega
theorem J7 {t : Trm} (h : Fine t) (p : zk t) (k : Int) (k1 : 1 <= k) : Fine (rowT t k) := by
 have := h.p0
 have := h.p1
 have := h.p2
 have := p.2
 unfold rowT
 refine vh h _ ?_ ?_ <;> split <;> omega
theorem J8 {t : Trm} (h : Fine t) (p : zk t) (k : Int) (k1 : 1 <= k) : Fine (kx t k) := by
 have := p.1
 unfold kx
 exact jq h _ (by omega) (by omega)
theorem zbn {t : Trm} (h : Fine t) (n : Int) : Fine (qD t n) := by
 unfold qD
 split
 ·exact jq (h.cw (jY _ _ _ _)) 0 (Int.le_refl 0) (Or.inr rfl)
 ·exact h
theorem Qd (n : Nums) (i : Nat) : 1 <= n.count i := by unfold Nums.count; split <;> omega
theorem zbo {t : Trm} (h : Fine t) (p : zk t) (n : Nums) : Fine (jp t n) := by
 have c1 := Qd n 0
 unfold jp
 simp only
 have b1 : (if 1 < n.list.length /\ 0 < n.list.getD 1 0 then min (n.list.getD 1 0) t.h else t.h) <= t.h := by split <;> omega
 generalize (if 1 < n.list.length /\ 0 < n.list.getD 1 0 then min (n.list.getD 1 0) t.h else t.h) = b at *
 split
 ·exact JZ ⟨h.w0, h.w1, h.h0, h.h1, h.ar, h.cl, h.al, h.wl, h.sl, h.x0, h.y0, h.cx, h.cy, by show 0 <= n.count 0 - 1; omega, Or.inl (by show n.count 0 - 1 <= b - 1; omega), by show b - 1 < t.h; omega⟩
 ·exact h
theorem zbp {t : Trm} (h : Fine t) (k : Int) : Fine (jW t k) := by
 unfold jW
 repeat' split
 all_goals first
 | exact h.cw (kz _ _ _)
 | exact h
theorem zbq {t : Trm} (h : Fine t) (k : Int) : Fine (jX t k) := by
 unfold jX
 repeat' split
 all_goals first
 | exact h.cw (kz _ _ _)
 | exact h
theorem Qf? {t : Trm} (h : Fine t) (p : zk t) (b : Int) (n : Nums) : ∀ t', actT? t b n = some t' -> Fine t' := by
 have k := Qd n 0
 have k2 := Qd n 1
 have x0 := h.x0
 have cx := h.cx
 have w0 := p.1
 have up := fine_up h p (n.count 0) (by omega)
 have dn := zbm h p (n.count 0) (by omega)
 unfold actT?
 simp only
 repeat (refine Z3 (P := Fine) (by first | exact up | exact dn | exact jq h _ (by omega) (by omega) | exact jq up 0 (Int.le_refl 0) (Or.inr rfl) | exact jq dn 0 (Int.le_refl 0) (Or.inr rfl) | exact J8 h p _ k | exact J8 (J7 h p _ k) p _ k2 | exact vZ h _ _ | exact zbq h _ | exact zbp h _ | exact zbn h _ | exact h.cw (vg _ _ h p) | exact h.cw (jY _ _ _ _) | exact h.cw (kz _ _ _) | exact J7 h p _ k | exact zbo h p n | exact Za h) ?_)
 intro t' h
 cases h
theorem Qe {t : Trm} (h : Fine t) (l : List Bool) (e : l.length = t.stops.length) : Fine { t with stops := l } :=
 ⟨h.w0, h.w1, h.h0, h.h1, h.ar, h.cl, h.al, h.wl, by show (l.length : Int) = _; rw [e]; exact h.sl, h.x0, h.y0, h.cx, h.cy, h.p0, h.p1, h.p2⟩
theorem Qf {t : Trm} (h : Fine t) (p : zk t) (b : Int) (n : Nums) : Fine (actT t b n) := by
 unfold actT
 split
 ·split
  ·exact Qe h _ List.length_set
  ·split
   ·exact Qe h _ List.length_replicate
   ·exact h
 ·split
  ·exact h.still rfl rfl rfl
  ·cases e : actT? t b n with
   | none => exact h
   | some t' => exact jM (Qf? h p b n t' e) _
theorem zbr {t : Trm} (h : Fine t) (b : Int) : Fine (jI t b) := by
 have h0 := jc h (-1)
 unfold jI
 simp only
 repeat' split
 all_goals first
 | exact h0
 | exact Qc _ _ h0
 | exact h.still rfl rfl rfl
 | exact zbk h0 _
 | exact Qb h0 _
 | (rename_i c; exact Qf h0 (kC h0 c) _ _)
theorem J9 {t : Trm} (h : Fine t) : Fine (qE t) := by
 unfold qE
 simp only
 split
 ·exact h.still rfl rfl rfl
 ·exact h
theorem zbs {t : Trm} (h : Fine t) (b : Int) : Fine (qM t b) := by
 unfold qM
 repeat' split
 all_goals first
 | exact h
 | exact h.still rfl rfl rfl
 | exact (J9 h).still rfl rfl rfl
theorem zbt (w : Int) (h : 0 <= w) : ((kZ w).length : Int) = w := by unfold kZ; rw [List.length_map, List.length_range]; omega
theorem Qg (w h : Int) (w0 : 0 <= w) (w1 : w <= 4096) (h0 : 0 <= h) (h1 : h <= 4096) (ar : w * h <= 1048576) : Fine (newV w h) := by
 have p := Int.mul_nonneg w0 h0
 have l : ∀ {α : Type} (x : α), ((List.replicate (w * h).toNat x).length : Int) = w * h := fun x => by rw [List.length_replicate]; omega
 exact ⟨w0, w1, h0, h1, ar, l _, l _, l _, zbt w w0, Int.le_refl 0, Int.le_refl 0, Or.inr rfl, Or.inr rfl, Int.le_refl 0, by show 0 <= h - 1 \/ h = 0 /\ (0 : Int) = 0; omega, by show h - 1 < h; omega⟩
theorem Xa {t : Trm} (h : Fine t) : Fine (allW t) := h.cw ⟨rfl, rfl, List.length_replicate⟩
theorem zbu {t : Trm} (h : Fine t) (b : Int) : Fine (jJ t b) := by
 have key : ∀ u : Trm, Fine u -> Fine (if u.w * u.h = 0 then u else if b = 69 then { (zF (setX u 0)) with pend := false } else if b = 68 then { (zF u) with pend := false } else if b = 77 then { (qt u) with pend := false } else if b = 72 then { u with stops := u.stops.set u.cur.x.toNat true } else u) := by
  intro u hu
  by_cases c : u.w * u.h = 0
  ·rw [if_pos c]; exact hu
  ·rw [if_neg c]
   have p := hu.some c
   repeat' split
   ·exact jM (vY (jq hu 0 (Int.le_refl 0) (Or.inr rfl)) p) _
   ·exact jM (vY hu p) _
   ·exact jM (zbi hu p) _
   ·exact Qe hu _ List.length_set
   ·exact hu
 unfold jJ
 simp only
 refine key _ ?_
 repeat' split
 all_goals first
 | exact h.still rfl rfl rfl
 | exact (Xa (Qg t.w t.h h.w0 h.w1 h.h0 h.h1 h.ar)).still rfl rfl rfl
 | exact Za (h.still rfl rfl rfl)
theorem Qh {t : Trm} (h : Fine t) (b : Int) : Fine (zw t b) := by
 unfold zw
 repeat' split
 ·exact h.still rfl rfl rfl
 ·exact J1 h b
 ·exact h
 ·exact Qa (t := { t with state := 0 }) (h.still rfl rfl rfl) b
 ·exact h.still rfl rfl rfl
 ·exact zbr (t := { t with state := 0 }) (h.still rfl rfl rfl) b
 ·exact h.still rfl rfl rfl
 ·exact h.still rfl rfl rfl
 ·exact zbu h b
theorem zbv {t : Trm} (h : Fine t) (b : Int) : Fine (zD t b) := by
 unfold zD
 repeat' split
 ·exact Qa h b
 ·exact h.still rfl rfl rfl
 ·exact Qh (t := { t with state := 1 }) (h.still rfl rfl rfl) b
 ·exact (J9 h).still rfl rfl rfl
 ·exact h.still rfl rfl rfl
 ·exact zbs h b
 ·exact Qh h b
end
section
open Go.RowKit
theorem Xb {s : ByteArray} {n : Int} (h : oneB s = some n) : s.size <= 64 /\ (n = 0 \/ n = 1 \/ n = 2) := by
 unfold oneB at h
 have m := JV s
 split at h
 ·rename_i c e
  rw [e] at m
  have := m c (by simp)
  split at h
  ·rename_i e2
   cases h
   rw [e2] at this
   exact this
  ·cases h
 ·cases h
structure OpnAt (t : Trm) : Prop where
 lo : 0 <= t.opn
 hi : t.opn < t.w * t.h
 wide : (t.cell t.opn.toNat).wide = 0 \/ (t.cell t.opn.toNat).wide = 1 \/ (t.cell t.opn.toNat).wide = 2
 fits : t.opn % t.w + (t.cell t.opn.toNat).wide <= t.w
 text : (t.cell t.opn.toNat).text.size <= 64
def jd (t : Trm) : Prop := t.opn = -1 \/ OpnAt t
def RestOk (t : Trm) : Prop := t.state ≠ 0 -> t.opn = -1
structure Ho (t t' : Trm) : Prop where
 held : t'.held = t.held
 reps : t.reps.size <= 65536 -> t'.reps.size <= 65536
 opn : t'.opn = t.opn \/ t'.opn = -1
theorem Ho.refl (t : Trm) : Ho t t := ⟨rfl, id, Or.inl rfl⟩
theorem Ho.trans {a b c : Trm} (h : Ho a b) (k : Ho b c) : Ho a c := by
 refine ⟨k.1.trans h.1, fun x => k.2 (h.2 x), ?_⟩
 rcases k.3 with e | e
 ·rcases h.3 with f | f
  ·exact Or.inl (e.trans f)
  ·exact Or.inr (e.trans f)
 ·exact Or.inr e
theorem Cw.ho {t t' : Trm} (h : Cw t t') : Ho t t' := ⟨h.held, fun x => by rw [h.reps]; exact x, Or.inl h.opn⟩
theorem qK {t t' : Trm} (e1 : t'.held = t.held) (e2 : t'.reps = t.reps) (e3 : t'.opn = t.opn \/ t'.opn = -1) : Ho t t' := ⟨e1, fun x => by rw [e2]; exact x, e3⟩
theorem vi (t : Trm) : Ho t (zF t) := by
 unfold zF
 split
 ·exact (jY _ _ _ _).ho
 ·exact qK rfl rfl (Or.inl rfl)
theorem zbw (t : Trm) : Ho t (qt t) := by
 unfold qt
 split
 ·exact (jY _ _ _ _).ho
 ·exact qK rfl rfl (Or.inl rfl)
theorem Xc (t : Trm) : Ho t (zA t) := Ho.trans (b := setX { t with pend := false } 0) (qK rfl rfl (Or.inl rfl)) (vi _)
theorem ho_shift {t : Trm} (h : Fine t) (p : zk t) (n : Int) : Ho t (zJ t n) := (vg t n h p).ho
theorem Xd (t : Trm) (x : Int) : Ho t (qe t x) := by unfold qe; split <;> exact qK rfl rfl (Or.inl rfl)
theorem Xe (t : Trm) (r : Int) : Ho t (qY t r) := by
 have h0 : Ho t { t with opn := -1 } := qK rfl rfl (Or.inr rfl)
 unfold qY
 simp only
 repeat' split
 all_goals first
 | exact h0
 | exact qK rfl rfl (Or.inr rfl)
 | exact (h0.trans (vi _)).trans (qK rfl rfl (Or.inl rfl))
theorem zbx (t : Trm) (r : Int) : (qY t r).opn = -1 := by
 have q := vi { t with opn := -1 }
 unfold qY
 simp only
 repeat' split
 all_goals first
 | rfl
 | (show (zF { t with opn := -1 }).opn = -1; exact q.opn.elim id id)
theorem Qi (t : Trm) (s : ByteArray) : Ho t (qC t s) := by
 unfold qC
 split
 ·rename_i c
  refine ⟨rfl, fun _ => ?_, Or.inl rfl⟩
  show (t.reps ++ ((⟨#[27, 91]⟩ : ByteArray) ++ s)).size <= 65536
  rw [ByteArray.size_append, ByteArray.size_append]
  have : (⟨#[27, 91]⟩ : ByteArray).size = 2 := rfl
  omega
 ·exact Ho.refl t
theorem zby (t : Trm) (k : Int) : Ho t (ja t k) := by
 unfold ja
 split
 ·exact Qi _ _
 ·split
  ·exact Qi _ _
  ·exact Ho.refl t
theorem ho_mode (t : Trm) (k : Int) (on : Bool) : Ho t (qg t k on) := by
 unfold qg
 simp only
 repeat' split
 all_goals first
 | exact qK rfl rfl (Or.inl rfl)
 | exact (Ho.trans (b := { (allW { t with pend := false, alt := on, cells := t.away, away := t.cells }) with sav := t.cur }) (qK rfl rfl (Or.inl rfl)) (jz _ _ _).ho)
theorem Xf (on : Bool) : ∀ (l : List Int) (t : Trm), Ho t (qu t on l)
 | [], t => Ho.refl t
 | k :: l, t => (ho_mode t k on).trans (Xf on l _)
theorem Xg (t : Trm) (d : Int) : ∀ n, Ho t (jo t d n)
 | 0 => Ho.refl t
 | n + 1 => (Xg t d n).trans (qK rfl rfl (Or.inl rfl))
theorem ho_lines (t : Trm) (n : Int) : Ho t (qD t n) := by
 unfold qD
 split
 ·exact (jY _ _ _ _).ho.trans (qK rfl rfl (Or.inl rfl))
 ·exact Ho.refl t
theorem zbz (t : Trm) (k : Int) : Ho t (jW t k) := by
 unfold jW
 repeat' split
 all_goals first
 | exact (kz _ _ _).ho
 | exact Ho.refl t
theorem zbA (t : Trm) (k : Int) : Ho t (jX t k) := by
 unfold jX
 repeat' split
 all_goals first
 | exact (kz _ _ _).ho
 | exact Ho.refl t
theorem zbB (t : Trm) (n : Nums) : Ho t (jp t n) := by
 unfold jp
 simp only
 repeat' split
 all_goals exact qK rfl rfl (Or.inl rfl)
theorem Qj? {t : Trm} (h : Fine t) (p : zk t) (b : Int) (n : Nums) : ∀ t', actT? t b n = some t' -> Ho t t' := by
 unfold actT?
 simp only
 repeat (refine Z3 (P := Ho t) (by first | exact qK rfl rfl (Or.inl rfl) | exact Xg _ _ _ | exact zbA _ _ | exact zbz _ _ | exact ho_lines _ _ | exact ho_shift h p _ | exact (jY _ _ _ _).ho | exact (kz _ _ _).ho | exact zbB _ _) ?_)
 intro t' h
 cases h
theorem Qj {t : Trm} (h : Fine t) (p : zk t) (b : Int) (n : Nums) : Ho t (actT t b n) := by
 unfold actT
 split
 ·repeat' split
  all_goals exact qK rfl rfl (Or.inl rfl)
 ·split
  ·exact qK rfl rfl (Or.inl rfl)
  ·cases e : actT? t b n with
   | none => exact Ho.refl t
   | some t' => exact (Qj? h p b n t' e).trans (qK rfl rfl (Or.inl rfl))
theorem zbC {t : Trm} (h : Fine t) (b : Int) : Ho { t with opn := -1 } (jI t b) := by
 have h0 := jc h (-1)
 unfold jI
 simp only
 repeat' split
 all_goals first
 | exact Ho.refl _
 | exact Xf _ _ _
 | exact qK rfl rfl (Or.inl rfl)
 | exact zby _ _
 | exact Qi _ _
 | (rename_i c; exact Qj h0 (kC h0 c) _ _)
theorem Ho.off {t t' : Trm} (h : Ho t t') (e : t.opn = -1) : t'.opn = -1 := by
 rcases h.opn with f | f
 ·exact f.trans e
 ·exact f
theorem Xh (t : Trm) (i : Nat) (c : Cel) (h : i < t.cells.length) : (putT t i c).cell i = c := by
 unfold putT Trm.cell
 simp only
 rw [List.getD_eq_getElem?_getD, List.getElem?_set_self h]
 rfl
theorem Xi (t : Trm) (i j : Nat) (c : Cel) (h : j ≠ i) : (putT t j c).cell i = t.cell i := by
 unfold putT Trm.cell
 simp only
 rw [List.getD_eq_getElem?_getD, List.getElem?_set_ne h, <- List.getD_eq_getElem?_getD]
theorem zbD (t : Trm) (x y : Int) (s : ByteArray) (n : Int) (st : Sty) (h : (y * t.w + x).toNat < t.cells.length) : (zI t x y s n st).cell (y * t.w + x).toNat = ⟨s, n, st⟩ := by
 have c := (qv t x y).trans (qv (zg t x y) (x + n) y)
 have hl := c.cl
 unfold zI
 simp only
 generalize zg (zg t x y) (x + n) y = u at *
 split
 ·rw [Xi _ _ _ _ (by omega), Xh _ _ _ (by omega)]
 ·rw [Xh _ _ _ (by omega)]
theorem at_row {w x : Int} (y : Int) (x0 : 0 <= x) (x1 : x < w) : (y * w + x) % w = x := by
 rw [Int.add_comm, Int.add_mul_emod_self_right]
 exact Int.emod_eq_of_lt x0 x1
theorem Xj (t : Trm) (x : Int) : (qe t x).w = t.w /\ (qe t x).h = t.h /\ (qe t x).opn = t.opn /\ (qe t x).cells = t.cells := by
 unfold qe
 split <;> exact ⟨rfl, rfl, rfl, rfl⟩
theorem OpnAt.same {t t' : Trm} (h : OpnAt t) (e : t'.w = t.w /\ t'.h = t.h /\ t'.opn = t.opn /\ t'.cells = t.cells) : OpnAt t' := by
 obtain ⟨e1, e2, e3, e4⟩ := e
 have ec : ∀ i, t'.cell i = t.cell i := fun i => by unfold Trm.cell; rw [e4]
 exact ⟨by rw [e3]; exact h.lo, by rw [e3, e1, e2]; exact h.hi, by rw [e3, ec]; exact h.wide, by rw [e3, ec, e1]; exact h.fits, by rw [e3, ec]; exact h.text⟩
theorem Qk {t : Trm} (h : Fine t) {x y : Int} (x0 : 0 <= x) (y0 : 0 <= y) (y1 : y < t.h) (s : ByteArray) (n : Int) (st : Sty) (n2 : n = 0 \/ n = 1 \/ n = 2) (x1 : x < t.w) (xn : x + n <= t.w) (hs : s.size <= 64) (ho : t.opn = y * t.w + x) : OpnAt (zI t x y s n st) := by
 have c := jR t x y s n st
 have r := h.row y0 y1
 have cl := h.cl
 have wc := zbD t x y s n st (by omega)
 have eo : (zI t x y s n st).opn = y * t.w + x := c.opn.trans ho
 refine ⟨by rw [eo]; omega, by rw [eo, c.w, c.h]; omega, by rw [eo, wc]; exact n2, ?_, by rw [eo, wc]; exact hs⟩
 rw [eo, wc, c.w, at_row y x0 x1]
 exact xn
theorem Xk {t : Trm} (h : Fine t) (p : zk t) (o : OpnAt t) : 0 <= t.opn % t.w /\ t.opn % t.w < t.w /\ 0 <= t.opn / t.w /\ t.opn / t.w < t.h /\ t.opn = t.opn / t.w * t.w + t.opn % t.w := by
 have a := p.1
 have lo := o.lo
 have hi := o.hi
 refine ⟨Int.emod_nonneg _ (by omega), Int.emod_lt_of_pos _ a, Int.ediv_nonneg lo (by omega), ?_, ?_⟩
 ·exact Int.ediv_lt_of_lt_mul a (by rw [Int.mul_comm]; exact hi)
 ·have := Int.mul_ediv_add_emod t.opn t.w
  rw [Int.mul_comm] at this
  omega
theorem zbE {t : Trm} (h : Fine t) (p : zk t) (s : ByteArray) (hs : s.size <= 64) (n2 : zn s = 0 \/ zn s = 1 \/ zn s = 2) : jd (zU t s) /\ Ho { t with opn := -1 } { zU t s with opn := -1 } := by
 unfold zU
 simp only
 have h0 : Fine { t with opn := -1 } := jc h _
 have d0 : Dim t { t with opn := -1 } := ⟨rfl, rfl⟩
 split
 ·exact ⟨Or.inl rfl, Ho.refl _⟩
 ·rename_i nw
  have h1 : Fine (if ({ t with opn := -1 } : Trm).pend = true then zA { t with opn := -1 } else { t with opn := -1 }) /\ Dim t (if ({ t with opn := -1 } : Trm).pend = true then zA { t with opn := -1 } else { t with opn := -1 }) /\ Ho { t with opn := -1 } (if ({ t with opn := -1 } : Trm).pend = true then zA { t with opn := -1 } else { t with opn := -1 }) := by
   split
   ·exact ⟨kB h0 p, d0.trans (xj _), Xc _⟩
   ·exact ⟨h0, d0, Ho.refl _⟩
  generalize (if ({ t with opn := -1 } : Trm).pend = true then zA { t with opn := -1 } else { t with opn := -1 }) = t1 at *
  obtain ⟨h1, d1, o1⟩ := h1
  split
  ·exact ⟨Or.inl (o1.off rfl), o1.trans (qK rfl rfl (Or.inr rfl))⟩
  ·have h2 : Fine (if t1.w < t1.cur.x + zn s then zA t1 else t1) /\ Dim t (if t1.w < t1.cur.x + zn s then zA t1 else t1) /\ Ho { t with opn := -1 } (if t1.w < t1.cur.x + zn s then zA t1 else t1) /\ (if t1.w < t1.cur.x + zn s then zA t1 else t1).cur.x + zn s <= (if t1.w < t1.cur.x + zn s then zA t1 else t1).w := by
    split
    ·have dn := xj t1
     refine ⟨kB h1 (xD d1 p), d1.trans dn, o1.trans (Xc _), ?_⟩
     have ex : (zA t1).cur.x = 0 := by
      unfold zA zF
      split
      ·rw [(jY _ _ _ _).cur]; rfl
      ·rfl
     rw [ex, (d1.trans dn).1]
     omega
    ·exact ⟨h1, d1, o1, by omega⟩
   generalize (if t1.w < t1.cur.x + zn s then zA t1 else t1) = t2 at *
   obtain ⟨h2, d2, o2, f2⟩ := h2
   have h3 : Fine (if t2.ins = true then zJ t2 (zn s) else t2) /\ Dim t (if t2.ins = true then zJ t2 (zn s) else t2) /\ Ho { t with opn := -1 } (if t2.ins = true then zJ t2 (zn s) else t2) /\ (if t2.ins = true then zJ t2 (zn s) else t2).cur.x + zn s <= (if t2.ins = true then zJ t2 (zn s) else t2).w := by
    split
    ·have c := vg t2 (zn s) h2 (xD d2 p)
     exact ⟨h2.cw c, d2.trans (JL _ _), o2.trans c.ho, by rw [c.cur, c.w]; exact f2⟩
    ·exact ⟨h2, d2, o2, f2⟩
   generalize (if t2.ins = true then zJ t2 (zn s) else t2) = t3 at *
   obtain ⟨h3, d3, o3, f3⟩ := h3
   have p3 := xD d3 p
   have h4 := jc h3 (t3.cur.y * t3.w + t3.cur.x)
   have c := jR { t3 with opn := t3.cur.y * t3.w + t3.cur.x } t3.cur.x t3.cur.y s (zn s) t3.cur.st
   have x0 := h3.x0
   have := p3.1
   have := p3.2
   have cx := h3.cx
   have cy := h3.cy
   refine ⟨Or.inr ((Qk h4 (x := t3.cur.x) (y := t3.cur.y) x0 h3.y0 (by show t3.cur.y < t3.h; omega) s (zn s) t3.cur.st n2 (by show t3.cur.x < t3.w; omega) f3 hs rfl).same (Xj _ _)), ?_⟩
   have s0 := Xd (zI { t3 with opn := t3.cur.y * t3.w + t3.cur.x } t3.cur.x t3.cur.y s (zn s) t3.cur.st) (t3.cur.x + zn s)
   exact ⟨(s0.held.trans c.held).trans o3.held, fun x => s0.reps (c.ho.reps (o3.reps x)), Or.inr rfl⟩
theorem zbF {t : Trm} (h : Fine t) (p : zk t) (o : jd t) (s : ByteArray) (hs : s.size <= 64) (n2 : zn s = 0 \/ zn s = 1 \/ zn s = 2) : jd (qf t s) /\ Ho { t with opn := -1 } { qf t s with opn := -1 } := by
  have fr := zbE h p s hs n2
  unfold qf
  split
  · rename_i c
    have oa : OpnAt t := by rcases o with e | e; · omega
                            · exact e
    obtain ⟨x0, x1, y0, y1, e⟩ := Xk h p oa
    split
    · rename_i n eo
      obtain ⟨q1, q2⟩ := Xb eo
      simp only
      split
      · rename_i en
        have cw := jR t (t.opn % t.w) (t.opn / t.w) ((t.cell t.opn.toNat).text ++ s) n (t.cell t.opn.toNat).st
        exact ⟨Or.inr (Qk h x0 y0 y1 _ _ _ q2 x1 (by rw [en]; exact oa.fits) q1 e), ⟨cw.held, cw.ho.reps, Or.inr rfl⟩⟩
      · split
        · have cw := jR t (t.opn % t.w) (t.opn / t.w) ((t.cell t.opn.toNat).text ++ s) n (t.cell t.opn.toNat).st
          have s0 := Xd (zI t (t.opn % t.w) (t.opn / t.w) ((t.cell t.opn.toNat).text ++ s) n (t.cell t.opn.toNat).st) (t.opn % t.w + 2)
          exact ⟨Or.inr ((Qk h x0 y0 y1 _ _ _ q2 x1 (by omega) q1 e).same (Xj _ _)), ⟨s0.held.trans cw.held, fun x => s0.reps (cw.ho.reps x), Or.inr rfl⟩⟩
        · exact ⟨o, Ho.refl _⟩
    · exact fr
  · exact fr
end
section
open Go.RowKit
theorem vj (l : List Int) : (barr l).size = l.length := by unfold barr; simp [ByteArray.size]
theorem byt_barr (l : List Int) (i : Nat) (h : i < l.length) (hr : ∀ b ∈ l, 0 <= b /\ b < 256) : byt (barr l) i = (l.getD i 0).toNat := by
 have h2 : i < (barr l).size := by rw [vj]; exact h
 have m : l.getD i 0 ∈ l := by rw [List.getD_eq_getElem?_getD, List.getElem?_eq_getElem h]; exact List.getElem_mem h
 have r := hr _ m
 have e : (barr l)[i] = UInt8.ofNat (l.getD i 0).toNat := by
  show ((l.map fun n => UInt8.ofNat n.toNat).toArray)[i]'(by simpa using h) = _
  rw [List.getElem_toArray, List.getElem_map, List.getD_eq_getElem?_getD, List.getElem?_eq_getElem h]
  rfl
 unfold byt
 rw [kt _ _ h2, e, UInt8.toNat_ofNat']
 omega
theorem zbG (a b : List Int) : (barr (a ++ b)).extract a.length (barr (a ++ b)).size = barr b := by
 apply ByteArray.ext
 rw [vj]
 unfold barr
 rw [ByteArray.data_extract]
 refine Array.ext (by simp) (fun i h1 h2 => ?_)
 simp
theorem dec_char (r : Int) (rest : List Int) (hr : ∀ b ∈ rest, 0 <= b /\ b < 256) : decB (barr (qm r ++ rest)) = ((zx r).toNat, (qm r).length) := by
 have rng : ∀ b ∈ qm r ++ rest, 0 <= b /\ b < 256 := fun b hb => by
  rcases List.mem_append.1 hb with m | m
  ·exact zaP r b m
  ·exact hr b m
 have by_ := fun i (h : i < (qm r).length) => byt_barr (qm r ++ rest) i (by rw [List.length_append]; omega) rng
 have sz := vj (qm r ++ rest)
 rw [List.length_append] at sz
 have cr := vQ r
 have ns : zx r < 55296 \/ 57343 < zx r := by unfold zx; split <;> omega
 unfold qm at by_ sz ⊢
 generalize zx r = c at *
 by_cases c1 : c < 128
 ·rw [if_pos c1] at by_ sz ⊢
  have b0 := by_ 0 (by simp)
  simp at b0
  unfold decB
  simp only [List.singleton_append] at b0 ⊢
  rw [b0]
  have l : ze c.toNat = (1, 0, 0) := by unfold ze; rw [if_pos (by omega)]
  rw [l]
  simp
 rw [if_neg c1] at by_ sz ⊢
 by_cases c2 : c < 2048
 ·rw [if_pos c2] at by_ sz ⊢
  have b0 := by_ 0 (by simp)
  have b1 := by_ 1 (by simp)
  simp at b0 b1
  simp only [List.cons_append, List.nil_append, List.length_cons, List.length_nil] at b0 b1 sz ⊢
  generalize barr ((192 + c / 64) :: (128 + c % 64) :: rest) = B at *
  have l : ze (byt B 0) = (2, 128, 191) := by rw [b0]; unfold ze; rw [if_neg (by omega), if_neg (by omega), if_pos (by omega)]
  unfold decB
  rw [l]
  simp only
  rw [if_neg (by omega), if_neg (by omega), qW _ _ _ _ _ _ _ (by omega) (by omega)]
  unfold goN
  rw [b0, b1]
  simp
  omega
 rw [if_neg c2] at by_ sz ⊢
 by_cases c3 : c < 65536
 ·rw [if_pos c3] at by_ sz ⊢
  have b0 := by_ 0 (by simp)
  have b1 := by_ 1 (by simp)
  have b2 := by_ 2 (by simp)
  simp at b0 b1 b2
  simp only [List.cons_append, List.nil_append, List.length_cons, List.length_nil] at b0 b1 b2 sz ⊢
  generalize barr ((224 + c / 4096) :: (128 + c / 64 % 64) :: (128 + c % 64) :: rest) = B at *
  have key : ∀ lo hi, ze (byt B 0) = (3, lo, hi) -> ¬ (byt B 1 < lo \/ hi < byt B 1) -> decB B = (c.toNat, 0 + 1 + 1 + 1) := by
   intro lo hi l ok
   unfold decB
   rw [l]
   simp only
   rw [if_neg (by omega), if_neg (by omega), qW _ _ _ _ _ _ _ (by omega) ok, qW _ _ _ _ _ _ _ (by omega) (show ¬ (byt B 2 < 128 \/ 191 < byt B 2) by omega)]
   unfold goN
   rw [b0, b1, b2]
   simp
   omega
  by_cases z : byt B 0 = 224
  ·exact key 160 191 (by rw [z]; rfl) (by omega)
  ·by_cases z2 : byt B 0 = 237
   ·exact key 128 159 (by rw [z2]; rfl) (by omega)
   ·exact key 128 191 (by unfold ze; rw [if_neg (by omega), if_neg (by omega), if_neg (by omega), if_neg z, if_neg z2, if_pos (by omega)]) (by omega)
 ·rw [if_neg c3] at by_ sz ⊢
  have b0 := by_ 0 (by simp)
  have b1 := by_ 1 (by simp)
  have b2 := by_ 2 (by simp)
  have b3 := by_ 3 (by simp)
  simp at b0 b1 b2 b3
  simp only [List.cons_append, List.nil_append, List.length_cons, List.length_nil] at b0 b1 b2 b3 sz ⊢
  generalize barr ((240 + c / 262144) :: (128 + c / 4096 % 64) :: (128 + c / 64 % 64) :: (128 + c % 64) :: rest) = B at *
  have key : ∀ lo hi, ze (byt B 0) = (4, lo, hi) -> ¬ (byt B 1 < lo \/ hi < byt B 1) -> decB B = (c.toNat, 0 + 1 + 1 + 1 + 1) := by
   intro lo hi l ok
   unfold decB
   rw [l]
   simp only
   rw [if_neg (by omega), if_neg (by omega), qW _ _ _ _ _ _ _ (by omega) ok, qW _ _ _ _ _ _ _ (by omega) (show ¬ (byt B 2 < 128 \/ 191 < byt B 2) by omega), qW _ _ _ _ _ _ _ (by omega) (show ¬ (byt B 3 < 128 \/ 191 < byt B 3) by omega)]
   unfold goN
   rw [b0, b1, b2, b3]
   simp
   omega
  by_cases z : byt B 0 = 240
  ·exact key 144 191 (by rw [z]; rfl) (by omega)
  ·by_cases z2 : byt B 0 = 244
   ·exact key 128 143 (by rw [z2]; rfl) (by omega)
   ·exact key 128 191 (by unfold ze; rw [if_neg (by omega), if_neg (by omega), if_neg (by omega), if_neg (by omega), if_neg (by omega), if_neg (by omega), if_neg z, if_pos (by omega)]) (by omega)
theorem zbH (r : Int) (rest : List Int) (hr : ∀ b ∈ rest, 0 <= b /\ b < 256) : zH (barr (qm r ++ rest)) = zx r :: zH (barr rest) := by
 have l := ZM r
 have cr := vQ r
 rw [vP _ (by rw [vj, List.length_append]; omega), dec_char r rest hr]
 simp only
 rw [zbG]
 congr 1
 omega
theorem zbI (r : Int) : ∃ x u, qn (qZ r) = [(x, u)] /\ (u = 0 \/ u = 1 \/ u = 2) := by
 have e : zH (qZ r) = [zx r] := by
  have := zbH r [] (by simp)
  rw [List.append_nil] at this
  exact this
 have f := xR [zx r] (by simp)
 have f1 : zu [zx r] = 1 := by have := f.2.1; simp at this; omega
 unfold qn
 rw [e, vS _ (by simp), f1]
 refine ⟨_, xg ([zx r].take 1), rfl, JI _⟩
theorem Xl (r : Int) : zn (qZ r) = 0 \/ zn (qZ r) = 1 \/ zn (qZ r) = 2 := by
 obtain ⟨x, u, e, h⟩ := zbI r
 unfold zn
 rw [e]
 simpa using h
theorem Xm (r : Int) : (qZ r).size <= 64 := by
 have := ZM r
 unfold qZ
 rw [vj]
 omega
theorem go_push' (k : ByteArray) (b : Int) (hb : 0 <= b /\ b < 256) (n : Nat) : ∀ f lo hi r i, i + f = n -> goO k f lo hi i = true -> i <= k.size -> goO (zp k b) f lo hi i = true \/ (goN (zp k b) n f lo hi r i).2 = k.size + 1 \/ goN (zp k b) n f lo hi r i = (65533, k.size) := by
 intro f
 induction f with
 | zero => intro lo hi r i hn h; unfold goO at h; cases h
 | succ f ih =>
  intro lo hi r i hn h h1
  unfold goO at h
  by_cases e : i = k.size
  ·subst e
   have bn := push_new k b hb
   have ne : ¬ k.size = (zp k b).size := by rw [jK]; omega
   by_cases bad : byt (zp k b) k.size < lo \/ hi < byt (zp k b) k.size
   ·exact Or.inr (Or.inr (xv _ _ _ _ _ _ _ ne bad))
   ·rw [qW _ _ _ _ _ _ _ ne bad]
    cases f with
    | zero => right; left; unfold goN; show n = k.size + 1; omega
    | succ f =>
     left
     unfold goO
     rw [if_neg ne, if_neg bad]
     unfold goO
     rw [if_pos (by rw [jK])]
  ·rw [if_neg e] at h
   have lt : i < k.size := by omega
   have bo := JJ k b i lt
   have ne : ¬ i = (zp k b).size := by rw [jK]; omega
   by_cases bad : byt k i < lo \/ hi < byt k i
   ·rw [if_pos bad] at h; cases h
   ·rw [if_neg bad] at h
    rw [qW _ _ _ _ _ _ _ ne (by rw [bo]; exact bad)]
    have q := ih 128 191 (r * 64 + byt (zp k b) i % 64) (i + 1) (by omega) h (by omega)
    rcases q with q | q
    ·left
     unfold goO
     rw [if_neg ne, bo, if_neg bad]
     exact q
    ·exact Or.inr q
theorem Xn (f : Nat) : zL f zB = ([], zB) := by
 cases f with
 | zero => rfl
 | succ f => unfold zL; rw [if_pos (show zB.size = 0 from rfl)]
theorem Zb (s : ByteArray) (k : Nat) (h : s.size <= k) : s.extract k s.size = zB := by
 apply ByteArray.ext
 rw [ByteArray.data_extract]
 have : s.data.size = s.size := rfl
 refine Array.ext (by simp [zB]; omega) (fun i h1 h2 => ?_)
 simp [zB] at h2
theorem Xo (f : Nat) (s : ByteArray) (h : s.size = 1) : (zL (f + 1) s).1 = [] \/ ∃ r, (zL (f + 1) s).1 = [r] := by
 unfold zL
 rw [if_neg (by omega)]
 split
 ·exact Or.inl rfl
 ·right
  have b := xf s (by omega)
  rw [Zb s _ (by omega), Xn]
  exact ⟨_, rfl⟩
theorem zbJ (k : ByteArray) (b : Int) (hb : 0 <= b /\ b < 256) (h : jL k) : (zq (zp k b)).1 = [] \/ ∃ r, (zq (zp k b)).1 = [r] \/ (zq (zp k b)).1 = [65533, r] \/ (zq (zp k b)).1 = [65533] := by
 have key : ∀ s : ByteArray, s.size = 1 -> (zq s).1 = [] \/ ∃ r, (zq s).1 = [r] := fun s hs => by
  unfold zq
  rw [hs]
  exact Xo 0 s hs
 rcases h with rfl | h
 ·rcases key (zp zB b) (by rw [jK]; rfl) with e | ⟨r, e⟩
  ·exact Or.inl e
  ·exact Or.inr ⟨r, Or.inl e⟩
 ·have hp := JK h
  have b0 : byt (zp k b) 0 = byt k 0 := JJ k b 0 hp
  unfold qN at h
  simp only [Bool.and_eq_true, decide_eq_true_eq] at h
  obtain ⟨n2, ho⟩ := h
  have gp := go_push' k b hb (ze (byt k 0)).1 ((ze (byt k 0)).1 - 1) (ze (byt k 0)).2.1 (ze (byt k 0)).2.2 (byt k 0 % 2 ^ (7 - (ze (byt k 0)).1)) 1 (by omega) ho hp
  have dec : decB (zp k b) = goN (zp k b) (ze (byt k 0)).1 ((ze (byt k 0)).1 - 1) (ze (byt k 0)).2.1 (ze (byt k 0)).2.2 (byt k 0 % 2 ^ (7 - (ze (byt k 0)).1)) 1 := by
   unfold decB
   rw [b0, if_neg (by omega), if_neg (by omega)]
  unfold zq
  rw [jK]
  unfold zL
  rw [if_neg (by rw [jK]; omega)]
  by_cases o : qN (zp k b) = true
  ·rw [if_pos o]; exact Or.inl rfl
  ·rw [if_neg o]
   rcases gp with gp | gp | gp
   ·exfalso
    apply o
    unfold qN
    rw [b0, gp]
    simp
    exact n2
   ·rw [dec, gp, Zb _ _ (by rw [jK]; exact zdA), Xn]
    exact Or.inr ⟨_, Or.inl rfl⟩
   ·rw [dec, gp]
    have s1 : ((zp k b).extract k.size (zp k b).size).size = 1 := by rw [ByteArray.size_extract, jK]; omega
    obtain ⟨m, hm⟩ : ∃ m, k.size = m + 1 := ⟨k.size - 1, by omega⟩
    have c := Xo m _ s1
    simp only
    rw [hm] at c ⊢
    rcases c with e | ⟨r, e⟩
    ·rw [e]; exact Or.inr ⟨0, Or.inr (Or.inr rfl)⟩
    ·rw [e]; exact Or.inr ⟨r, Or.inr (Or.inl rfl)⟩
structure Live (t : Trm) : Prop where
 fine : Fine t
 st : StOk t
 opn : jd t
 rest : RestOk t
 reps : t.reps.size <= 65536
structure Run (t t' : Trm) : Prop where
 fine : Fine t'
 opn : jd t'
 held : t'.held = t.held
 reps : t.reps.size <= 65536 -> t'.reps.size <= 65536
 kept : t'.kept = t.kept
 state : t'.state = t.state \/ t'.state = 1 /\ t'.opn = -1
theorem Ql {t : Trm} (h : Fine t) (o : jd t) (r : Int) : Run t (z6 t r) := by
 have f := J5 h r
 unfold z6 at f ⊢
 split
 ·exact ⟨by rw [if_pos (by assumption)] at f; exact f, Or.inl rfl, rfl, id, rfl, Or.inr ⟨rfl, rfl⟩⟩
 ·rename_i n1
  rw [if_neg n1] at f
  split
  ·rename_i c
   rw [if_pos c] at f
   have q := Xe t r
   have k := vX t r
   exact ⟨f, Or.inl (zbx t r), q.held, q.reps, k.kept, Or.inl k.state⟩
  ·rename_i n2
   rw [if_neg n2] at f
   split
   ·rename_i c
    rw [if_pos c] at f
    have p := kC h c
    obtain ⟨a, b⟩ := zbF h p o (qZ r) (Xm r) (Xl r)
    have k := ZW t (qZ r)
    exact ⟨f, a, b.held, b.reps, k.kept, Or.inl k.state⟩
   ·exact ⟨h, o, rfl, id, rfl, Or.inl rfl⟩
theorem zbK {t : Trm} (r : Int) (h : r ≠ 27) : (z6 t r).state = t.state := by
 unfold z6
 rw [if_neg h]
 split
 ·exact (vX t r).state
 ·split
  ·exact (ZW t _).state
  ·rfl
theorem Qm : ∀ (l : List Int) {t : Trm}, Fine t -> jd t -> t.reps.size <= 65536 -> jd (qh t l) /\ (qh t l).held = t.held /\ (qh t l).reps.size <= 65536
 | [], t, h, o, q => ⟨o, rfl, q⟩
 | r :: l, t, h, o, q => by
  have a := Ql h o r
  obtain ⟨b1, b2, b3⟩ := Qm l a.fine a.opn (a.reps q)
  exact ⟨b1, b2.trans a.held, b3⟩
theorem Qn {t : Trm} (h : Fine t) (o : jd t) (s0 : t.state = 0) (r : Int) : RestOk (z6 t r) := by
 have a := Ql h o r
 intro n
 rcases a.state with e | e
 ·exact absurd (e.trans s0) n
 ·exact e.2
theorem Xp {t : Trm} (h : Live t) (s0 : t.state = 0) (b : Int) (hb : 0 <= b /\ b < 256) : Live (qS t b) /\ (qS t b).held = t.held := by
 have f := Qa h.fine b
 have s := Z1 t b s0
 have cf := zbJ t.kept b hb h.st.kept
 unfold qS at f s ⊢
 have h1 : Fine { t with kept := (zq (zp t.kept b)).2 } := h.fine.still rfl rfl rfl
 have o1 : jd { t with kept := (zq (zp t.kept b)).2 } := by
  rcases h.opn with e | e
  ·exact Or.inl e
  ·exact Or.inr (e.same ⟨rfl, rfl, rfl, rfl⟩)
 have r := Qm (zq (zp t.kept b)).1 h1 o1 h.reps
 refine ⟨⟨f, s, r.1, ?_, r.2.2⟩, r.2.1⟩
 generalize hu : ({ t with kept := (zq (zp t.kept b)).2 } : Trm) = u at *
 have us : u.state = 0 := by rw [<- hu]; exact s0
 rcases cf with e | ⟨x, e | e | e⟩
 ·rw [e]; intro n; exact absurd us n
 ·rw [e]; exact Qn h1 o1 us x
 ·rw [e]
  have a := Ql h1 o1 65533
  exact Qn a.fine a.opn ((zbK 65533 (by decide)).trans us) x
 ·rw [e]; exact Qn h1 o1 us 65533
def Off (n : Nat) (u : Trm) : Prop := u.opn = -1 /\ u.reps.size <= 65536 /\ u.held.size <= n
theorem Ho.goOff {n : Nat} {u u' : Trm} (h : Ho u u') (k : Off n u) : Off n u' := ⟨h.off k.1, h.reps k.2.1, by rw [h.held]; exact k.2.2⟩
theorem Off.live {n : Nat} {u : Trm} (h : Off n u) (f : Fine u) (s : StOk u) : Live u := ⟨f, s, Or.inl h.1, fun _ => h.1, h.2.1⟩
theorem jr {n : Nat} {u u' : Trm} (k : Off n u) (e1 : u'.opn = u.opn) (e2 : u'.reps = u.reps) (e3 : u'.held = u.held) : Off n u' := ⟨e1.trans k.1, by rw [e2]; exact k.2.1, by rw [e3]; exact k.2.2⟩
theorem zbL {n : Nat} {t : Trm} (h : Fine t) (k : Off n t) (b : Int) : Off n (jJ t b) := by
 have key : ∀ u : Trm, Off n u -> Off n (if u.w * u.h = 0 then u else if b = 69 then { (zF (setX u 0)) with pend := false } else if b = 68 then { (zF u) with pend := false } else if b = 77 then { (qt u) with pend := false } else if b = 72 then { u with stops := u.stops.set u.cur.x.toNat true } else u) := by
  intro u hu
  have i1 : Off n (zF (setX u 0)) := (vi (setX u 0)).goOff (jr hu rfl rfl rfl)
  have i2 := (vi u).goOff hu
  have i3 := (zbw u).goOff hu
  repeat' split
  all_goals first
  | exact hu
  | exact jr i1 rfl rfl rfl
  | exact jr i2 rfl rfl rfl
  | exact jr i3 rfl rfl rfl
  | exact jr hu rfl rfl rfl
 unfold jJ
 simp only
 refine key _ ?_
 repeat' split
 all_goals first
 | exact jr k rfl rfl rfl
 | exact ⟨k.1, k.2.1, Nat.zero_le _⟩
 | exact ⟨rfl, k.2.1, Nat.zero_le _⟩
theorem zbM (t : Trm) : (qE t).opn = t.opn /\ (qE t).reps = t.reps /\ (qE t).held = t.held := by
 unfold qE
 simp only
 split <;> exact ⟨rfl, rfl, rfl⟩
theorem Xq {n : Nat} {u : Trm} (k : Off n u) (b : Int) : Off (n + 1) { u with held := zp u.held b } := ⟨k.1, k.2.1, by show (zp u.held b).size <= n + 1; rw [jK]; have := k.2.2; omega⟩
theorem Off.le {n m : Nat} {u : Trm} (k : Off n u) (h : n <= m) : Off m u := ⟨k.1, k.2.1, Nat.le_trans k.2.2 h⟩
theorem Xr {t : Trm} (h : Live t) (o : t.opn = -1) (b : Int) (hb : 0 <= b /\ b < 256) : Live (zw t b) /\ (zw t b).held.size <= t.held.size + 1 := by
 have f := Qh h.fine b
 have s := Z5 t b h.st
 have k : Off t.held.size t := ⟨o, h.reps, zdA⟩
 have fin : ∀ u, u = zw t b -> Off (t.held.size + 1) u -> Live (zw t b) /\ (zw t b).held.size <= t.held.size + 1 := by
  intro u e q
  subst e
  exact ⟨q.live f s, q.2.2⟩
 by_cases c1 : b = 27
 ·exact fin { t with state := 1 } (by unfold zw; rw [if_pos c1]) ((jr k rfl rfl rfl).le (Nat.le_succ _))
 by_cases c2 : b < 32
 ·exact fin (qY t b) (by unfold zw; rw [if_neg c1, if_pos c2]) (((Xe t b).goOff k).le (Nat.le_succ _))
 by_cases c3 : b = 127
 ·exact fin t (by unfold zw; rw [if_neg c1, if_neg c2, if_pos c3]) (k.le (Nat.le_succ _))
 by_cases c4 : 127 < b
 ·have e : zw t b = qS { t with state := 0 } b := by unfold zw; rw [if_neg c1, if_neg c2, if_neg c3, if_pos c4]
  have q := Xp (t := { t with state := 0 }) ⟨h.fine.still rfl rfl rfl, ⟨Int.le_refl 0, by show (0 : Int) <= 7; decide, h.st.kept⟩, Or.inl o, fun _ => o, h.reps⟩ rfl b hb
  rw [e]
  exact ⟨q.1, by rw [q.2]; exact Nat.le_succ _⟩
 by_cases c5 : t.state = 3
 ·by_cases c6 : b < 64
  ·exact fin { t with held := zp t.held b } (by unfold zw; rw [if_neg c1, if_neg c2, if_neg c3, if_neg c4, if_pos c5, if_pos c6]) (Xq k b)
  ·refine fin (jI { t with state := 0 } b) (by unfold zw; rw [if_neg c1, if_neg c2, if_neg c3, if_neg c4, if_pos c5, if_neg c6]) (Off.le ?_ (Nat.le_succ _))
   exact (zbC (t := { t with state := 0 }) (h.fine.still rfl rfl rfl) b).goOff ⟨rfl, h.reps, zdA⟩
 by_cases c7 : b < 48
 ·exact fin { t with state := 2 } (by unfold zw; rw [if_neg c1, if_neg c2, if_neg c3, if_neg c4, if_neg c5, if_pos c7]) ((jr k rfl rfl rfl).le (Nat.le_succ _))
 by_cases c8 : t.state = 2
 ·exact fin { t with state := 0 } (by unfold zw; rw [if_neg c1, if_neg c2, if_neg c3, if_neg c4, if_neg c5, if_neg c7, if_pos c8]) ((jr k rfl rfl rfl).le (Nat.le_succ _))
 ·exact fin (jJ t b) (by unfold zw; rw [if_neg c1, if_neg c2, if_neg c3, if_neg c4, if_neg c5, if_neg c7, if_neg c8]) ((zbL h.fine k b).le (Nat.le_succ _))
theorem zbN {t : Trm} (h : Live t) (b : Int) (hb : 0 <= b /\ b < 256) : Live (zD t b) /\ (zD t b).held.size <= t.held.size + 1 := by
 have f := zbv h.fine b
 have s := take_ok t b h.st
 by_cases c0 : t.state = 0
 ·have q := Xp h c0 b hb
  have e : zD t b = qS t b := by unfold zD; rw [if_pos c0]
  rw [e]
  exact ⟨q.1, by rw [q.2]; exact Nat.le_succ _⟩
 have o := h.rest c0
 have k : Off t.held.size t := ⟨o, h.reps, zdA⟩
 have fin : ∀ u, u = zD t b -> Off (t.held.size + 1) u -> Live (zD t b) /\ (zD t b).held.size <= t.held.size + 1 := by
  intro u e q
  subst e
  exact ⟨q.live f s, q.2.2⟩
 obtain ⟨t1, t2, t3⟩ := zbM t
 by_cases c1 : b = 24 \/ b = 26
 ·exact fin { t with state := 0 } (by unfold zD; rw [if_neg c0, if_pos c1]) ((jr k rfl rfl rfl).le (Nat.le_succ _))
 by_cases c2 : t.state = 6 \/ t.state = 7
 ·by_cases c3 : b ≠ 92
  ·have e : zD t b = zw { t with state := 1 } b := by unfold zD; rw [if_neg c0, if_neg c1, if_pos c2, if_pos c3]
   rw [e]
   exact Xr (t := { t with state := 1 }) ⟨h.fine.still rfl rfl rfl, ⟨by show (0 : Int) <= 1; decide, by show (1 : Int) <= 7; decide, h.st.kept⟩, Or.inl o, fun _ => o, h.reps⟩ o b hb
  ·by_cases c4 : t.state = 6
   ·exact fin { (qE t) with state := 0 } (by unfold zD; rw [if_neg c0, if_neg c1, if_pos c2, if_neg c3, if_pos c4]) ((jr k t1 t2 t3).le (Nat.le_succ _))
   ·exact fin { t with state := 0 } (by unfold zD; rw [if_neg c0, if_neg c1, if_pos c2, if_neg c3, if_neg c4]) ((jr k rfl rfl rfl).le (Nat.le_succ _))
 by_cases c3 : t.state = 4 \/ t.state = 5
 ·refine fin (qM t b) (by unfold zD; rw [if_neg c0, if_neg c1, if_neg c2, if_pos c3]) ?_
  unfold qM
  repeat' split
  ·exact (jr k rfl rfl rfl).le (Nat.le_succ _)
  ·exact k.le (Nat.le_succ _)
  ·exact (jr k t1 t2 t3).le (Nat.le_succ _)
  ·exact Xq k b
  ·exact k.le (Nat.le_succ _)
 ·have e : zD t b = zw t b := by unfold zD; rw [if_neg c0, if_neg c1, if_neg c2, if_neg c3]
  rw [e]
  exact Xr h o b hb
theorem Qo : ∀ (l : List Int) {t : Trm}, Live t -> (∀ b ∈ l, 0 <= b /\ b < 256) -> Live (qJ t l) /\ (qJ t l).held.size <= t.held.size + l.length
 | [], t, h, _ => ⟨h, zdA⟩
 | b :: l, t, h, r => by
  have a := zbN h b (r b (by simp))
  have c := Qo l a.1 (fun x hx => r x (by simp [hx]))
  refine ⟨c.1, ?_⟩
  show (qJ (zD t b) l).held.size <= _
  rw [List.length_cons]
  omega
theorem live_new (w h : Int) (w0 : 0 <= w) (w1 : w <= 4096) (h0 : 0 <= h) (h1 : h <= 4096) (ar : w * h <= 1048576) : Live (newV w h) :=
 ⟨Qg w h w0 w1 h0 h1 ar, new_ok w h, Or.inl rfl, fun _ => rfl, Nat.zero_le _⟩
end
section
structure Frm where
 at_ : Int
 bs : List Int
def zV (w h : Int) : Bool := decide (0 <= w /\ w <= 4096 /\ 0 <= h /\ h <= 4096 /\ w * h <= 1048576)
def qo (l : List Frm) : Bool := l.any fun f => decide (1048576 < f.bs.length)
def qi (l : List Frm) : Bool := qo l || decide (16384 < l.length)
def zC : Int -> List Frm -> Bool
 | _, [] => true
 | last, f :: l => decide (last <= f.at_ /\ f.at_ <= 1099511627776) && zC f.at_ l
def js (l : List Frm) : Bool := zC 0 l
def qF (l : List Frm) : Int := if qi l then 3 else if js l then 0 else 301
def numF : Nat -> Int -> List Int
 | 0, n => [n]
 | k + 1, n => if n < 128 then [n] else (128 + n % 128) :: numF k (n / 128)
def numL (n : Int) : List Int := numF 9 n
def sumF : List Int -> Int -> Int -> Int × Int
 | [], a, c => (a, c)
 | b :: l, a, c => sumF l ((a + b) % 65521) ((c + (a + b) % 65521) % 65521)
def sumL (D : List Int) : Int := 65536 * (sumF D 1 0).2 + (sumF D 1 0).1
def qw (s : Int) : List Int := [s % 256, s / 256 % 256, s / 65536 % 256, s / 16777216]
def encF (b : List Int) (last : Int) : List Frm -> Option (List Int)
 | [] => some b
 | f :: l => if 1048576 < b.length + f.bs.length then none else encF (b ++ numL (f.at_ - last) ++ numL f.bs.length ++ f.bs) f.at_ l
def jZ (w h n : Int) : List Int := [70, 77, 1] ++ numL w ++ numL h ++ numL n
def qj (b : List Int) : List Int := b ++ qw (sumL b)
def encT (w h : Int) (l : List Frm) : List Int × Int :=
 if zV w h = false then ([], 5) else if qF l ≠ 0 then ([], qF l) else
 match encF (jZ w h l.length) 0 l with
 | none => ([], 3)
 | some b => if 1048576 < (qj b).length then ([], 3) else (qj b, 0)
structure RdT where
 at_ : Nat
 code : Int
 spot : Int
def zr (r : RdT) (c p : Int) : RdT := if r.code = 0 then ⟨r.at_, c, p⟩ else r
def zo (D : List Int) (r : RdT) (n : Int) : List Int × RdT :=
 if r.code ≠ 0 then ([], r) else if (D.length : Int) - r.at_ < n then ([], zr r 6 D.length) else ((D.drop r.at_).take n.toNat, ⟨r.at_ + n.toNat, r.code, r.spot⟩)
def z7 (D : List Int) (first : Nat) (most : Int) : Nat -> Nat -> Int -> RdT -> Int × RdT
 | 0, i, n, r => (0, zr r 300 first)
 | k + 1, i, n, r =>
  if r.code ≠ 0 then (0, r) else if D.length <= r.at_ then (0, zr r 6 D.length) else
  if D.getD r.at_ 0 < 128 then
   (if (D.getD r.at_ 0 = 0 /\ 0 < i) \/ most < n + D.getD r.at_ 0 * 128 ^ i then (0, zr ⟨r.at_ + 1, r.code, r.spot⟩ 300 first) else (n + D.getD r.at_ 0 * 128 ^ i, ⟨r.at_ + 1, r.code, r.spot⟩))
  else z7 D first most k (i + 1) (n + D.getD r.at_ 0 % 128 * 128 ^ i) ⟨r.at_ + 1, r.code, r.spot⟩
def numR (D : List Int) (r : RdT) (most : Int) : Int × RdT := z7 D r.at_ most 6 0 0 r
def jt (D : List Int) (r : RdT) (i c : Int) : RdT := if (zo D r 1).1 ≠ [] /\ (zo D r 1).1.getD 0 0 ≠ c then zr (zo D r 1).2 300 i else (zo D r 1).2
def frsR (D : List Int) : Nat -> Int -> RdT -> List Frm × RdT
 | 0, _, r => ([], r)
 | k + 1, last, r => if r.code ≠ 0 then ([], r) else
  let p := numR D r (1099511627776 - last)
  let q := numR D p.2 1099511627776
  let t := zo D q.2 q.1
  let z := frsR D k (last + p.1) t.2
  (⟨last + p.1, t.1⟩ :: z.1, z.2)
structure Dec where
 w : Int
 h : Int
 l : List Frm
 code : Int
 spot : Int
def jA (r : RdT) (a : Nat) (w h : Int) : RdT := if 1048576 < w * h then zr r 300 a else r
def sumR (D : List Int) (r : RdT) : RdT :=
 let t := zo D r 4
 if t.1 = [] then t.2 else if t.1 ≠ qw (sumL (D.take r.at_)) then zr t.2 300 r.at_ else if t.2.at_ < D.length then zr t.2 300 t.2.at_ else t.2
def endR (w h : Int) (l : List Frm) (r : RdT) : Dec := if r.code ≠ 0 then ⟨0, 0, [], r.code, r.spot⟩ else ⟨w, h, l, 0, 0⟩
def qL (D : List Int) : RdT := jt D (jt D (jt D ⟨0, 0, 0⟩ 0 70) 1 77) 2 1
def decT (D : List Int) : Dec :=
 if 1048576 < D.length then ⟨0, 0, [], 3, 0⟩ else
 let w := numR D (qL D) 4096
 let h := numR D w.2 4096
 let n := numR D (jA h.2 w.2.at_ w.1 h.1) 16384
 let f := frsR D n.1.toNat 0 n.2
 endR w.1 h.1 f.1 (sumR D f.2)
theorem Qp (k : Nat) (m : Int) (h : 128 <= m) : numF (k + 1) m = (128 + m % 128) :: numF k (m / 128) := by
 rw [numF, if_neg (by omega)]
theorem Qq (k : Nat) (m : Int) (h : m < 128) : numF k m = [m] := by
 cases k with
 | zero => rfl
 | succ k => rw [numF, if_pos h]
theorem kD {D : List Int} {p : Nat} {x : Int} {l : List Int} (h : D.drop p = x :: l) : p < D.length /\ D.getD p 0 = x /\ D.drop (p + 1) = l := by
 have lt : p < D.length := by
  rcases Nat.lt_or_ge p D.length with a | a
  ·exact a
  ·rw [List.drop_eq_nil_of_le a] at h; cases h
 rw [List.drop_eq_getElem_cons lt] at h
 simp only [List.cons.injEq] at h
 exact ⟨lt, by rw [List.getD_eq_getElem?_getD, List.getElem?_eq_getElem lt]; exact h.1, h.2⟩
theorem Xs (i : Nat) (acc m : Int) : acc + m % 128 * 128 ^ i + m / 128 * 128 ^ (i + 1) = acc + m * 128 ^ i := by
 have e : m = 128 * (m / 128) + m % 128 := (Int.mul_ediv_add_emod m 128).symm
 have p : (128 : Int) ^ (i + 1) = 128 ^ i * 128 := Int.pow_succ _ _
 rw [p]
 generalize m / 128 = q at *
 generalize m % 128 = r at *
 generalize (128 : Int) ^ i = P at *
 subst e
 grind
theorem Xt (D : List Int) (first : Nat) (most s : Int) : ∀ (k f i : Nat) (acc m : Int) (p : Nat) (rest : List Int), k <= f + 1 -> 0 < k -> 0 <= m -> m < 128 ^ k -> (0 < i -> 0 < m) -> acc + m * 128 ^ i <= most -> D.drop p = numF f m ++ rest ->
  z7 D first most k i acc ⟨p, 0, s⟩ = (acc + m * 128 ^ i, ⟨p + (numF f m).length, 0, s⟩)
 | 0, _, _, _, _, _, _, _, h, _, _, _, _, _ => absurd h (Nat.lt_irrefl 0)
 | k + 1, f, i, acc, m, p, rest, hf, _, m0, m1, hi, hm, hD => by
  by_cases c : m < 128
  ·rw [Qq f m c] at hD ⊢
   obtain ⟨a1, a2, _⟩ := kD hD
   have n1 : ¬ ((D.getD p 0 = 0 /\ 0 < i) \/ most < acc + D.getD p 0 * 128 ^ i) := by
    rw [a2]
    rintro (⟨x, y⟩ | x)
    ·have := hi y; omega
    ·omega
   rw [z7, if_neg (by simp), if_neg (by simp only; omega), if_pos (by simp only; rw [a2]; exact c), if_neg n1, a2]
   rfl
  ·have c : 128 <= m := by omega
   obtain ⟨f', rfl⟩ : ∃ f', f = f' + 1 := by
    cases f with
    | zero =>
     have k0 : k = 0 := by omega
     subst k0
     simp at m1
     omega
    | succ f' => exact ⟨f', rfl⟩
   rw [Qp f' m c] at hD ⊢
   obtain ⟨a1, a2, a3⟩ := kD hD
   have k0 : 0 < k := by
    rcases Nat.eq_zero_or_pos k with z | z
    ·subst z; simp at m1; omega
    ·exact z
   have r := Xt D first most s k f' (i + 1) (acc + m % 128 * 128 ^ i) (m / 128) (p + 1) rest (by omega) k0 (by omega) (by
    have e : (128 : Int) ^ (k + 1) = 128 ^ k * 128 := Int.pow_succ _ _
    rw [e] at m1
    exact Int.ediv_lt_of_lt_mul (by decide) m1) (fun _ => by omega) (by rw [Xs]; exact hm) a3
   rw [Xs] at r
   have e128 : (128 + m % 128) % 128 = m % 128 := by omega
   rw [z7, if_neg (by simp), if_neg (by simp only; omega), if_neg (by simp only; rw [a2]; omega), a2, e128, r]
   simp only [List.length_cons, Prod.mk.injEq, RdT.mk.injEq, true_and, and_true]
   omega
theorem vm {D : List Int} {p : Nat} {n most : Int} {rest : List Int} (s : Int) (h0 : 0 <= n) (hm : n <= most) (h40 : n <= 1099511627776) (hD : D.drop p = numL n ++ rest) : numR D ⟨p, 0, s⟩ most = (n, ⟨p + (numL n).length, 0, s⟩) := by
 have := Xt D p most s 6 9 0 0 n p rest (by decide) (by decide) h0 (by omega) (fun h => absurd h (Nat.lt_irrefl 0)) (by simpa using hm) hD
 unfold numR numL
 simpa using this
theorem numF_pos (k : Nat) (m : Int) : 0 < (numF k m).length := by
 cases k with
 | zero => exact Nat.one_pos
 | succ k => rw [numF]; split <;> simp
theorem Qr {D : List Int} {p : Nat} {x rest : List Int} (s : Int) (le : p <= D.length) (hD : D.drop p = x ++ rest) : zo D ⟨p, 0, s⟩ x.length = (x, ⟨p + x.length, 0, s⟩) := by
 have len := congrArg List.length hD
 rw [List.length_drop, List.length_append] at len
 unfold zo
 rw [if_neg (by simp)]
 simp only
 rw [if_neg (by omega), hD, Int.toNat_natCast, List.take_left']
 rfl
def jv (last : Int) : List Frm -> List Int
 | [] => []
 | f :: l => numL (f.at_ - last) ++ numL f.bs.length ++ f.bs ++ jv f.at_ l
theorem Zc : ∀ (l : List Frm) (b : List Int) (last : Int) (c : List Int), encF b last l = some c -> c = b ++ jv last l
 | [], b, last, c, h => by rw [encF] at h; cases h; rw [jv, List.append_nil]
 | f :: l, b, last, c, h => by
  rw [encF] at h
  split at h
  ·cases h
  ·rw [Zc l _ _ c h, jv]
   simp only [List.append_assoc]
theorem xU {D x rest : List Int} {p : Nat} (h : D.drop p = x ++ rest) : D.drop (p + x.length) = rest := by
 rw [<- List.drop_drop, h, List.drop_left]
theorem Xu (D : List Int) (s : Int) : ∀ (l : List Frm) (last : Int) (p : Nat) (rest : List Int), 0 <= last -> zC last l = true -> qo l = false -> D.drop p = jv last l ++ rest ->
  frsR D l.length last ⟨p, 0, s⟩ = (l, ⟨p + (jv last l).length, 0, s⟩)
 | [], last, p, rest, _, _, _, hD => rfl
 | f :: l, last, p, rest, h0, ht, hl, hD => by
  rw [zC, Bool.and_eq_true] at ht
  obtain ⟨t1, t2⟩ := ht
  have t1 := of_decide_eq_true t1
  rw [qo, List.any_cons, Bool.or_eq_false_iff] at hl
  have l1 := of_decide_eq_false hl.1
  rw [jv] at hD ⊢
  simp only [List.append_assoc] at hD
  have d1 := xU hD
  have d2 := xU d1
  have d3 := xU d2
  have len := congrArg List.length hD
  rw [List.length_drop, List.length_append, List.length_append] at len
  have ps := numF_pos 9 (f.at_ - last)
  rw [List.length_cons, frsR, if_neg (by simp), vm s (by omega) (by omega) (by omega) hD]
  simp only
  rw [vm s (by omega) (by omega) (by omega) d1]
  simp only
  rw [Qr s (by unfold numL at *; omega) d2]
  simp only
  have e : last + (f.at_ - last) = f.at_ := by omega
  rw [e, Xu D s l f.at_ _ rest (by omega) t2 hl.2 d3]
  simp only [List.length_append, Prod.mk.injEq, RdT.mk.injEq, true_and, and_true]
  omega
theorem Xv (s : Int) : (qw s).length = 4 := rfl
theorem Qs {D : List Int} {p : Nat} {c : Int} {rest : List Int} (s i : Int) (hD : D.drop p = c :: rest) : jt D ⟨p, 0, s⟩ i c = ⟨p + 1, 0, s⟩ := by
 have := Qr (x := [c]) s (Nat.le_of_lt (kD hD).1) hD
 unfold jt
 rw [show ((1 : Int)) = ((List.length [c] : Nat) : Int) from rfl, this]
 simp
theorem dec_enc (w h : Int) (l : List Frm) (b : List Int) (e : encT w h l = (b, 0)) : decT b = ⟨w, h, l, 0, 0⟩ := by
 unfold encT at e
 split at e
 ·cases e
 rename_i sz
 have sz : zV w h = true := by cases q : zV w h with | false => exact absurd q sz | true => rfl
 have sz := of_decide_eq_true sz
 split at e
 ·rename_i ne
  simp only [Prod.mk.injEq] at e
  exact absurd e.2 ne
 rename_i ck
 have ck : qF l = 0 := by omega
 unfold qF at ck
 have mn : qi l = false := by cases q : qi l with | false => rfl | true => rw [q] at ck; simp at ck
 rw [mn] at ck
 have tm : js l = true := by cases q : js l with | true => rfl | false => rw [q] at ck; simp at ck
 rw [qi, Bool.or_eq_false_iff] at mn
 have ml := of_decide_eq_false mn.2
 split at e
 ·cases e
 rename_i c hc
 have ec := Zc l _ _ c hc
 split at e
 ·cases e
 rename_i len
 simp only [Prod.mk.injEq, and_true] at e
 subst e
 have hD : (qj c).drop 0 = 70 :: 77 :: 1 :: (numL w ++ (numL h ++ (numL l.length ++ (jv 0 l ++ qw (sumL c))))) := by
  unfold qj
  rw [ec]
  unfold jZ
  simp only [List.drop_zero, List.append_assoc, List.cons_append, List.nil_append]
 have d1 := (kD hD).2.2
 have d2 := (kD d1).2.2
 have d3 := (kD d2).2.2
 have d4 := xU d3
 have d5 := xU d4
 have d6 := xU d5
 have d7 := xU d6
 have st : qL (qj c) = ⟨3, 0, 0⟩ := by
  unfold qL
  rw [Qs 0 0 hD, Qs 0 1 d1, Qs 0 2 d2]
 have n1 := vm 0 sz.1 sz.2.1 (by omega) d3
 have n2 := vm 0 sz.2.2.1 sz.2.2.2.1 (by omega) d4
 have n3 := vm (n := (l.length : Int)) (most := 16384) 0 (by omega) (by omega) (by omega) d5
 have n4 := Xu (qj c) 0 l 0 _ _ (by omega) tm mn.1 d6
 have cl : (qj c).take (0 + 1 + 1 + 1 + (numL w).length + (numL h).length + (numL l.length).length + (jv 0 l).length) = c := by
  unfold qj
  have : c.length = 0 + 1 + 1 + 1 + (numL w).length + (numL h).length + (numL l.length).length + (jv 0 l).length := by
   rw [ec]
   unfold jZ
   simp only [List.length_append, List.length_cons, List.length_nil] <;> omega
  rw [<- this, List.take_left']
  rfl
 have dl : (qj c).length = 0 + 1 + 1 + 1 + (numL w).length + (numL h).length + (numL l.length).length + (jv 0 l).length + 4 := by
  unfold qj
  rw [ec]
  unfold jZ
  simp only [List.length_append, List.length_cons, List.length_nil, Xv] <;> omega
 have n5 := Qr (x := qw (sumL c)) (rest := []) 0 (by rw [dl]; exact Nat.le_add_right _ 4) (by rw [d7, List.append_nil])
 have d0 : decT (qj c) = (let w' := numR (qj c) (qL (qj c)) 4096; let h' := numR (qj c) w'.2 4096; let n := numR (qj c) (jA h'.2 w'.2.at_ w'.1 h'.1) 16384; let f := frsR (qj c) n.1.toNat 0 n.2; endR w'.1 h'.1 f.1 (sumR (qj c) f.2)) := by
  unfold decT
  rw [if_neg len]
 rw [d0, st]
 simp only
 rw [show (3 : Nat) = 0 + 1 + 1 + 1 from rfl, n1]
 simp only
 rw [n2]
 simp only
 unfold jA
 rw [if_neg (by omega), n3]
 simp only [Int.toNat_natCast]
 rw [n4]
 simp only
 unfold sumR
 rw [Xv] at n5
 simp only
 rw [show ((4 : Int)) = ((4 : Nat) : Int) from rfl, n5]
 simp only
 rw [if_neg (by unfold qw; simp), cl, if_neg (by simp), if_neg (by omega)]
 unfold endR
 rw [if_neg (by simp)]
end
end Go.Proofs.YtmaofighbpnbiaaGreatDoor
