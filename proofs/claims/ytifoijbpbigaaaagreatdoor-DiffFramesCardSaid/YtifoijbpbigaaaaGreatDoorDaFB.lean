/- What lies below tapes (kept of earlier texts: StyR, DfP, DfF, Gen, Mem, DfTx). -/
import Derived.Test.YtifoijbpbigaaaaGreatDoorDaFA
import Derived.Lib.AppendIntMem
import Derived.StillTail
import Derived.Lib.QuietBelow
import Derived.OwnWalk
import Derived.ArgAppend
import Derived.Laws.OwnMore
import Derived.Maps.AppendAt
import Derived.Deep.DeepCutAuto
import Derived.Laws.BytesString
import Derived.Lib.BufferRead
set_option linter.unusedVariables false
set_option linter.unusedSimpArgs false
namespace Go.Proofs.YtifoijbpbigaaaaGreatDoor
section
open Go.RowKit
def zx (c d : Int) : Int := if c = 0 \/ d <= 0 then 0 else if d = 1 then qv c else if d = 2 then qR c else c
def zL (s : Sty) (d : Int) : Sty := ⟨zx (plC s.fg) d, zx (plC s.bg) d, s.at_⟩
theorem ZK (D : Int -> Int) (lo : Int) (k m : Nat) (h : m = k + 1) : bst D lo m <= lo + (k : Int) := by
 subst h
 unfold bst
 split
 ·exact Int.le_refl _
 ·exact (xH D lo k).2
theorem ZL (c : Int) (h : qm c) : cnt c = c := by
 unfold cnt zE
 rcases h with rfl | h | h
 ·rfl
 ·rw [if_pos (by rw [decide_eq_true_iff]; omega)]
 ·rw [if_pos (by rw [decide_eq_true_iff]; omega)]
theorem ZM (c d : Int) (h : qm c) : qm (zx c d) := by
 unfold zx
 split
 ·exact Or.inl rfl
 ·split
  ·unfold qv
   split
   ·have h1 := ZK (palD (chR c) (chG c) (chB c)) 0 15 16 rfl
    have h2 := (xH (palD (chR c) (chG c) (chB c)) 0 16).1
    exact Or.inr (Or.inl ⟨by omega, by omega⟩)
   ·rw [ZL c h]; exact h
  ·split
   ·unfold qR
    split
    ·have h1 := ZK (palD (chR c) (chG c) (chB c)) 16 239 240 rfl
     have h2 := (xH (palD (chR c) (chG c) (chB c)) 16 240).1
     exact Or.inr (Or.inl ⟨by omega, by omega⟩)
    ·rw [ZL c h]; exact h
   ·exact h
end
section
open Go.RowKit
def redC (d : Int) (c : Cel) : Cel := ⟨c.text, c.wide, zL c.st d⟩
def redL (l : List Cel) (d : Int) : List Cel := l.map (redC d)
def redS (s : Scr) (d : Int) : Scr := ⟨s.w, s.h, redL s.cells d, s.x, s.y, s.shown⟩
theorem jL {a : Cel} (h : zT a = true) : a.wide = 1 /\ oneB a.text = some 1 /\ zf a.st = a.st := by
 unfold zT at h
 simp only [Bool.and_eq_true, decide_eq_true_eq] at h
 exact ⟨h.1.1, h.1.2, h.2⟩
theorem qY {a b : Cel} (h : qe a b = true) : a.wide = 2 /\ oneB a.text = some 2 /\ b.wide = 0 /\ b.text = ⟨#[]⟩ /\ a.st = b.st /\ zf a.st = a.st := by
 unfold qe at h
 simp only [Bool.and_eq_true, decide_eq_true_eq] at h
 obtain ⟨⟨⟨⟨⟨h1, h2⟩, h3⟩, h4⟩, h5⟩, h6⟩ := h
 exact ⟨h1, h2, h3, h4, h5, h6⟩
theorem sing_mk {a : Cel} (h1 : a.wide = 1) (h2 : oneB a.text = some 1) (h3 : zf a.st = a.st) : zT a = true := by
 unfold zT
 rw [h1, h2, h3]
 simp
theorem pair_mk {a b : Cel} (h1 : a.wide = 2) (h2 : oneB a.text = some 2) (h3 : b.wide = 0) (h4 : b.text = ⟨#[]⟩) (h5 : a.st = b.st) (h6 : zf a.st = a.st) : qe a b = true := by
 unfold qe
 rw [h1, h2, h3, h4, <- h5, h6]
 simp
theorem J8 {a b : Cel} (h : a.wide ≠ 2) : qe a b = false := by
 cases e : qe a b with
 | false => rfl
 | true => exact absurd (qY e).1 h
theorem vi (a b : Cel) (r : List Cel) : rowR (a :: b :: r) = if qe a b = true then rowR r else if zT a = true then rowR (b :: r) else false := by
 conv => lhs; unfold rowR
theorem ZO {a : Cel} {l : List Cel} (h : rowR (a :: l) = true) : (∃ b r, l = b :: r /\ qe a b = true /\ rowR r = true) \/ (zT a = true /\ rowR l = true) := by
 cases l with
 | nil => exact Or.inr ⟨h, rfl⟩
 | cons b r =>
  rw [vi] at h
  by_cases p : qe a b = true
  ·rw [if_pos p] at h; exact Or.inl ⟨b, r, rfl, p, h⟩
  ·rw [if_neg p] at h
   by_cases s : zT a = true
   ·rw [if_pos s] at h; exact Or.inr ⟨s, h⟩
   ·rw [if_neg s] at h; cases h
theorem ZP {a : Cel} {l : List Cel} (h : zT a = true) (hl : rowR l = true) : rowR (a :: l) = true := by
 cases l with
 | nil => exact h
 | cons b r =>
  rw [vi, if_neg (by rw [J8 (by rw [(jL h).1]; decide)]; decide), if_pos h]
  exact hl
theorem ZR {a b : Cel} {l : List Cel} (h : qe a b = true) (hl : rowR l = true) : rowR (a :: b :: l) = true := by
 rw [vi, if_pos h]
 exact hl
theorem vj {a : Cel} {l : List Cel} (h : rowR (a :: l) = true) : (a.wide = 2 /\ ∃ b r, l = b :: r /\ b.wide = 0 /\ rowR r = true) \/ (a.wide = 1 /\ rowR l = true) := by
 rcases ZO h with ⟨b, r, e, p, q⟩ | ⟨s, q⟩
 ·exact Or.inl ⟨(qY p).1, b, r, e, (qY p).2.2.1, q⟩
 ·exact Or.inr ⟨(jL s).1, q⟩
theorem xf {P : List Cel -> Prop} (h0 : P []) (h1 : ∀ a l, zT a = true -> rowR l = true -> P l -> P (a :: l)) (h2 : ∀ a b l, qe a b = true -> rowR l = true -> P l -> P (a :: b :: l)) : ∀ n l, l.length <= n -> rowR l = true -> P l := by
 intro n
 induction n with
 | zero =>
  intro l hl _
  have e : l = [] := List.length_eq_zero_iff.1 (by omega)
  subst e
  exact h0
 | succ n ih =>
  intro l hl h
  cases l with
  | nil => exact h0
  | cons a l =>
   rcases ZO h with ⟨b, r, e, p, q⟩ | ⟨s, q⟩
   ·subst e
    exact h2 a b r p q (ih r (by simp at hl; omega) q)
   ·exact h1 a l s q (ih l (by simp at hl; omega) q)
theorem row_app (a b : List Cel) (ha : rowR a = true) (hb : rowR b = true) : rowR (a ++ b) = true :=
 xf (P := fun l => rowR (l ++ b) = true) hb (fun a l s _ h => ZP s h) (fun a c l p _ h => ZR p h) a.length a Vf ha
theorem vk (s : Sty) (d : Int) : zf (zL s d) = zL s d := by
 unfold zf zL
 simp only
 rw [Zw _ (ZM _ d (qA _)), Zw _ (ZM _ d (qA _))]
theorem row_red (l : List Cel) (d : Int) (h : rowR l = true) : rowR (redL l d) = true :=
 xf (P := fun l => rowR (redL l d) = true) rfl
  (fun a l s _ q => ZP (sing_mk (a := redC d a) (jL s).1 (jL s).2.1 (vk _ _)) q)
  (fun a b l p _ q => ZR (pair_mk (a := redC d a) (b := redC d b) (qY p).1 (qY p).2.1 (qY p).2.2.1 (qY p).2.2.2.1 (by show zL a.st d = zL b.st d; rw [(qY p).2.2.2.2.1]) (vk _ _)) q)
  l.length l Vf h
theorem J9 (L : List Cel) (W : Nat) : ∀ n, (∀ y, y < n -> rowR ((L.drop (y * W)).take W) = true) -> rowR (L.take (n * W)) = true := by
 intro n
 induction n with
 | zero => intro _; simp [rowR]
 | succ n ih =>
  intro h
  rw [Nat.succ_mul, List.take_add]
  exact row_app _ _ (ih fun y hy => h y (by omega)) (h n (by omega))
theorem z7 {s : Scr} (h : zi s = true) : qJ s.w s.h = true /\ (s.cells.length : Int) = s.w * s.h /\ (∀ y, y < s.h.toNat -> rowR (zG s y) = true) /\ qN s = true := by
 unfold zi at h
 simp only [Bool.and_eq_true, decide_eq_true_eq, List.all_eq_true, List.mem_range] at h
 exact ⟨h.1.1.1, h.1.1.2, h.1.2, h.2⟩
theorem ZT {s : Scr} (h1 : qJ s.w s.h = true) (h2 : (s.cells.length : Int) = s.w * s.h) (h3 : ∀ y, y < s.h.toNat -> rowR (zG s y) = true) (h4 : qN s = true) : zi s = true := by
 unfold zi
 simp only [Bool.and_eq_true, decide_eq_true_eq, List.all_eq_true, List.mem_range]
 exact ⟨⟨⟨h1, h2⟩, h3⟩, h4⟩
theorem qZ {w h : Int} (hs : qJ w h = true) : 0 <= w /\ w <= 4096 /\ 0 <= h /\ h <= 4096 /\ w * h <= 1048576 := by
 unfold qJ at hs
 simp only [Bool.and_eq_true, decide_eq_true_eq] at hs
 omega
theorem xI {s : Scr} (h : zi s = true) : rowR s.cells = true := by
 obtain ⟨h1, h2, h3, _⟩ := z7 h
 obtain ⟨a, _, b, _, _⟩ := qZ h1
 have e := J9 s.cells s.w.toNat s.h.toNat h3
 have l : s.cells.length = s.h.toNat * s.w.toNat := by
  have : ((s.h.toNat * s.w.toNat : Nat) : Int) = s.w * s.h := by
   rw [Int.natCast_mul, Int.toNat_of_nonneg a, Int.toNat_of_nonneg b, Int.mul_comm]
  omega
 rwa [<- l, List.take_length] at e
theorem ki {s : Scr} (d : Int) (h : zi s = true) : zi (redS s d) = true := by
 obtain ⟨h1, h2, h3, h4⟩ := z7 h
 refine ZT h1 (by show ((redL s.cells d).length : Int) = _; unfold redL; rw [List.length_map]; exact h2) (fun y hy => ?_) h4
 have e : zG (redS s d) y = redL (zG s y) d := by
  show ((redL s.cells d).drop _).take _ = _
  unfold redL zG
  rw [<- List.map_drop, <- List.map_take]
  rfl
 rw [e]
 exact row_red _ d (h3 y hy)
def zg : Nat -> List Cel -> List Cel -> List (Nat × Nat)
 | i, x :: x' :: xs, y :: y' :: ys => if y.wide = 2 then (if x = y /\ x' = y' then [] else [(i, 2)]) ++ zg (i + 2) xs ys else (if x = y then [] else [(i, 1)]) ++ zg (i + 1) (x' :: xs) (y' :: ys)
 | i, [x], [y] => if x = y then [] else [(i, 1)]
 | _, _, _ => []
theorem xg (i : Nat) (l : List Cel) : zg i l [] = [] := by
 cases l with
 | nil => rfl
 | cons a l => cases l <;> rfl
theorem xh (i : Nat) (x x' y y' : Cel) (xs ys : List Cel) (h : y.wide = 2) : zg i (x :: x' :: xs) (y :: y' :: ys) = (if x = y /\ x' = y' then [] else [(i, 2)]) ++ zg (i + 2) xs ys := by
 conv => lhs; unfold zg
 rw [if_pos h]
theorem xi (i : Nat) (x y : Cel) (xs ys : List Cel) (h : y.wide ≠ 2) (hl : xs.length = ys.length) : zg i (x :: xs) (y :: ys) = (if x = y then [] else [(i, 1)]) ++ zg (i + 1) xs ys := by
 cases xs with
 | nil =>
  cases ys with
  | nil => simp [zg]
  | cons _ _ => cases hl
 | cons a xs =>
  cases ys with
  | nil => cases hl
  | cons b ys =>
   conv => lhs; unfold zg
   rw [if_neg h]
theorem diffU_none (l : List Cel) (h : rowR l = true) : ∀ i k, k.length = l.length -> zg i k l = [] -> k = l :=
 xf (P := fun l => ∀ i k, k.length = l.length -> zg i k l = [] -> k = l) (fun i k e _ => List.length_eq_zero_iff.1 e)
  (fun a l s _ q i k e z => by
   cases k with
   | nil => cases e
   | cons b k =>
    simp only [List.length_cons, Nat.add_right_cancel_iff] at e
    rw [xi i b a k l (by rw [(jL s).1]; decide) e] at z
    have z2 := List.append_eq_nil_iff.1 z
    by_cases c : b = a
    ·rw [c, q _ k e z2.2]
    ·rw [if_neg c] at z2; cases z2.1)
  (fun a b l p _ q i k e z => by
   cases k with
   | nil => cases e
   | cons c k =>
    cases k with
    | nil => cases e
    | cons d k =>
     simp only [List.length_cons, Nat.add_right_cancel_iff] at e
     rw [xh i c d a b k l (qY p).1] at z
     have z2 := List.append_eq_nil_iff.1 z
     by_cases g : c = a /\ d = b
     ·rw [g.1, g.2, q _ k e z2.2]
     ·rw [if_neg g] at z2; cases z2.1)
  l.length l Vf h
def chgL (l : List (Nat × Nat)) : List Int := l.flatMap fun p => (List.range p.2).map fun k => ((p.1 + k : Nat) : Int)
theorem xj (a b : List (Nat × Nat)) : chgL (a ++ b) = chgL a ++ chgL b := List.flatMap_append
theorem ZU (i : Nat) : chgL [(i, 1)] = [(i : Int)] := by simp [chgL, List.range_succ]
theorem ZV (i : Nat) : chgL [(i, 2)] = [(i : Int), ((i + 1 : Nat) : Int)] := by simp [chgL, List.range_succ]
theorem Xa (l : List Cel) (h : rowR l = true) : ∀ i k, k.length = l.length -> (∀ x ∈ chgL (zg i k l), (i : Int) <= x /\ x < (i : Int) + l.length) /\ (chgL (zg i k l)).Pairwise (· < ·) :=
 xf (P := fun l => ∀ i k, k.length = l.length -> (∀ x ∈ chgL (zg i k l), (i : Int) <= x /\ x < (i : Int) + l.length) /\ (chgL (zg i k l)).Pairwise (· < ·))
  (fun i k _ => by rw [xg]; exact ⟨(fun x hx => by cases hx), List.Pairwise.nil⟩)
  (fun a l s _ q i k e => by
   cases k with
   | nil => cases e
   | cons b k =>
    simp only [List.length_cons, Nat.add_right_cancel_iff] at e
    rw [xi i b a k l (by rw [(jL s).1]; decide) e]
    obtain ⟨q1, q2⟩ := q (i + 1) k e
    by_cases c : b = a
    ·rw [if_pos c]
     refine ⟨fun x hx => ?_, q2⟩
     have := q1 x hx
     simp only [List.length_cons]
     omega
    ·rw [if_neg c, xj, ZU]
     refine ⟨fun x hx => ?_, ?_⟩
     ·simp only [List.length_cons]
      rcases List.mem_cons.1 hx with rfl | hx
      ·omega
      ·have := q1 x hx
       omega
     ·exact List.pairwise_cons.2 ⟨fun x hx => by have := q1 x hx; omega, q2⟩)
  (fun a b l p _ q i k e => by
   cases k with
   | nil => cases e
   | cons c k =>
    cases k with
    | nil => cases e
    | cons d k =>
     simp only [List.length_cons, Nat.add_right_cancel_iff] at e
     rw [xh i c d a b k l (qY p).1]
     obtain ⟨q1, q2⟩ := q (i + 2) k e
     by_cases g : c = a /\ d = b
     ·rw [if_pos g]
      refine ⟨fun x hx => ?_, q2⟩
      have := q1 x hx
      simp only [List.length_cons]
      omega
     ·rw [if_neg g, xj, ZV]
      refine ⟨fun x hx => ?_, ?_⟩
      ·simp only [List.length_cons]
       rcases List.mem_cons.1 hx with rfl | hx
       ·omega
       ·rcases List.mem_cons.1 hx with rfl | hx
        ·omega
        ·have := q1 x hx
         omega
      ·refine List.pairwise_cons.2 ⟨fun x hx => ?_, List.pairwise_cons.2 ⟨fun x hx => by have := q1 x hx; omega, q2⟩⟩
       rcases List.mem_cons.1 hx with rfl | hx
       ·omega
       ·have := q1 x hx; omega)
  l.length l Vf h
end
section
open Go.RowKit
def zB : ByteArray := ⟨#[]⟩
def itB (n : Int) : ByteArray := ⟨(Lib.itoa n).toArray⟩
def semi1 (s : ByteArray) (n : Int) : ByteArray := (if s = zB then s else s ++ ⟨#[59]⟩) ++ itB n
def zU (l : List Int) : ByteArray := l.foldl semi1 zB
def zI (f t : Sty) : ByteArray := if zU (zR f t) = zB then zB else (⟨#[27, 91]⟩ ++ zU (zR f t)) ++ ⟨#[109]⟩
def zH (x y : Int) : ByteArray := (((⟨#[27, 91]⟩ ++ itB (y + 1)) ++ ⟨#[59]⟩) ++ itB (x + 1)) ++ ⟨#[72]⟩
def z8 : ByteArray := ⟨#[27, 91, 48, 109, 27, 91, 63, 55, 108, 27, 91, 50, 74, 27, 91, 72, 27, 91, 63, 50, 53, 108]⟩
def jj : ByteArray := ⟨#[27, 91, 63, 50, 53, 104]⟩
def jy : ByteArray := ⟨#[27, 91, 63, 50, 53, 108]⟩
def qK (a b : ByteArray) : Bool := decide (zu (a ++ b) ≠ zu a ++ zu b)
def qB : Cel := ⟨⟨#[32]⟩, 1, qd⟩
structure Tel where
 place : Bool
 x : Int
 y : Int
 st : Sty
 text : ByteArray
 out : ByteArray
def seqT (t : Tel) (b : ByteArray) : Tel := ⟨t.place, t.x, t.y, t.st, zB, t.out ++ b⟩
def jz (t : Tel) (x y : Int) : Tel := ⟨true, x, y, t.st, zB, t.out ++ zH x y⟩
def goB (t : Tel) (x y : Int) (s : Sty) (tx : ByteArray) : Bool :=
 !t.place || decide (t.x ≠ x) || decide (t.y ≠ y) || (decide (zI t.st s = zB) && decide (t.text ≠ zB) && qK t.text tx)
def jc (t : Tel) (x y : Int) (s : Sty) (tx : ByteArray) : Tel := if goB t x y s tx = true then jz t x y else t
def jl (t : Tel) (u : ByteArray) : Tel := if u = zB then t else seqT t u
def put1 (t : Tel) (W : Int) (n : Nat) (c : Cel) : Tel := ⟨decide (t.x + n < W), t.x + n, t.y, c.st, c.text, t.out ++ c.text⟩
def zN (W : Int) (t : Tel) (i n : Nat) (c : Cel) : Tel := put1 (jl (jc t ((i : Int) % W) ((i : Int) / W) c.st c.text) (zI t.st c.st)) W n c
def celD : Cel := ⟨⟨#[]⟩, 0, qd⟩
def zV (W : Int) (L : List Cel) (t : Tel) (l : List (Nat × Nat)) : Tel := l.foldl (fun t p => zN W t p.1 p.2 (L.getD p.1 celD)) t
theorem Xb (W : Int) (L : List Cel) (t : Tel) (l : List (Nat × Nat)) (i n : Nat) : zV W L t (l ++ [(i, n)]) = zN W (zV W L t l) i n (L.getD i celD) := by
 unfold zV
 rw [List.foldl_append]
 rfl
structure Wri where
 depth : Int
 told : Bool
 last : Scr
 tel : Tel
 shown : Bool
def newB (w : Wri) (r : Scr) : Bool := !w.told || decide (w.last.w ≠ r.w) || decide (w.last.h ≠ r.h)
def zM (w : Wri) (anew : Bool) : Tel := if anew = true then ⟨true, 0, 0, qd, zB, z8⟩ else ⟨w.tel.place, w.tel.x, w.tel.y, w.tel.st, w.tel.text, zB⟩
def qS (w : Wri) (anew : Bool) (r : Scr) : List Cel := if anew = true then List.replicate r.cells.length qB else w.last.cells
def zy (t : Tel) (r : Scr) : Tel := if (r.shown && (!t.place || decide (t.x ≠ r.x) || decide (t.y ≠ r.y))) = true then jz t r.x r.y else t
def qD (t : Tel) (was now : Bool) : Tel := if (now && !was) = true then seqT t jj else if (!now && was) = true then seqT t jy else t
def zJ (w : Wri) (r : Scr) : Tel :=
 qD (zy (zV r.w r.cells (zM w (newB w r)) (zg 0 (qS w (newB w r) r) r.cells)) r) (w.shown && !newB w r) r.shown
def jA (w : Wri) (s : Scr) : Wri := ⟨w.depth, true, redS s w.depth, zJ w (redS s w.depth), s.shown⟩
end
section
open Go Go.Sort Go.RowKit
section
variable {P : Program} {ops : Array Oper} {md : Region.Mode} {C : World -> Prop}
def HeadQ (P : Program) (md : Region.Mode) (ops : Array Oper) (C : World -> Prop) (n : Nat) (L : Array Bool -> Act -> Prop) : Nat -> Array Bool -> Act -> Prop
 | 0, d, a => L d a
 | f + 1, d, a => Region.ready md ops d ≠ [] /\ ∀ i, i ∈ Region.ready md ops d -> i < n /\ qOp P ops C i (fun a' => HeadQ P md ops C n L f (d.setIfInBounds i true) a') a
theorem HeadQ.any {n g : Nat} {L : Array Bool -> Act -> Prop} {Q' : Exit -> Act -> World -> Prop} (tl : ∀ d a w, C w -> L d a -> wpAny P md ops Q' g d a w) (f : Nat) :
  ∀ (d : Array Bool) (a : Act) (w : World), C w -> HeadQ P md ops C n L f d a -> wpAny P md ops Q' (f + g) d a w := by
 induction f with
 | zero => intro d a w hw h; rw [Nat.zero_add]; exact tl d a w hw h
 | succ f ih =>
  intro d a w hw h
  have e : f + 1 + g = (f + g) + 1 := by omega
  rw [e]
  refine ⟨fun z => absurd z h.1, fun i hi => ?_⟩
  exact wpOp_of_qOp hw (fun a' w' hw' k => ih _ a' w' hw' k) (h.2 i hi).2
theorem HeadQ.first {n i : Nat} {oi : Oper} {v : Value} {L : Array Bool -> Act -> Prop} (hi : ops[i]? = some oi) (nosel : ∀ (j : Nat) (o : Oper) cs b, ops[j]? = some o -> o.op ≠ .select cs b)
  (sink : Region.sinkB md ops n = true) (chain : Region.chainB md ops n = true) (hn : n < ops.size) (hin : i < n) (late : ∀ d a, L d a -> ∀ j ∈ Region.ready md ops d, n <= j) (f : Nat) :
  ∀ (d : Array Bool) (a : Act), HeadInv md ops n d ->
   (∀ j oj, ops[j]? = some oj -> j ≠ i -> d.getD j true = false -> (∀ e ∈ oj.after, Region.binds md e = true -> e.on ≠ i) -> oi.apart ops oj = true) ->
   i ∈ Region.ready md ops d -> YieldsIn P ops C oi v a -> HeadQ P md ops C n L f (d.setIfInBounds i true) (a.put oi.dst v) -> HeadQ P md ops C n L (f + 1) d a := by
 induction f with
 | zero =>
  intro d a inv free hr hy H
  refine ⟨List.ne_nil_of_mem hr, fun j hj => ?_⟩
  have lt : j < n := Nat.lt_of_not_le fun h => tail_waits sink chain hn inv _ i rfl hin (mem_ready.1 hr).1 j h hj
  refine ⟨lt, ?_⟩
  rcases Nat.decEq j i with ne | e
  ·exact absurd (late _ _ H j (ready_mono hj ne)) (by omega)
  ·subst e; exact hy.qOp hi H
 | succ f ih =>
  intro d a inv free hr hy H
  refine ⟨List.ne_nil_of_mem hr, fun j hj => ?_⟩
  have lt : j < n := Nat.lt_of_not_le fun h => tail_waits sink chain hn inv _ i rfl hin (mem_ready.1 hr).1 j h hj
  refine ⟨lt, ?_⟩
  rcases Nat.decEq j i with ne | e
  ·obtain ⟨ju, oj, hoj, all⟩ := mem_ready.1 hj
   have nw : ∀ e ∈ oj.after, Region.binds md e = true -> e.on ≠ i := by
    intro e he hb q
    have := all e he hb
    rw [q, getD_both (mem_ready.1 hr).1] at this
    exact Bool.false_ne_true this
   have k := qOp_put hoj (free j oj hoj ne ju nw) (fun cs b => nosel i oi cs b hi) (fun cs b => nosel j oj cs b hoj) hy (H.2 j (ready_mono hj ne)).2
   refine qOp_mono (fun a' x => ?_) k
   refine ih (d.setIfInBounds j true) a' (inv.set hj lt) (fun m om hm mi mu mw => ?_) (ready_mono hr (Ne.symm ne)) x.1 (by rw [Array.setIfInBounds_comm _ _ ne]; exact x.2)
   refine free m om hm mi ?_ mw
   rcases Nat.decEq j m with jm | jm
   ·rw [getD_set_ne true jm] at mu; exact mu
   ·subst jm; exact ju
  ·subst e; exact hy.qOp hi H
theorem HeadQ.lex {n g : Nat} {K : Act -> Prop} (hsel : Region.noSelect ops = true) (sink : Region.sinkB md ops n = true) (chain : Region.chainB md ops n = true) (hn : n < ops.size) (l : List Oper) :
  ∀ (k : Nat) (d : Array Bool) (a : Act), (∀ j, j < l.length -> l[j]? = ops[k + j]?) -> k + l.length = n -> HeadInv md ops n d -> Region.lexHead md ops g l.length k d = true -> wpQuiet P ops C K l a ->
  HeadQ P md ops C n (fun d' a' => Region.seqB md ops g n d' = true /\ K a') l.length d a := by
 induction l with
 | nil =>
  intro k d a _ hk _ hB h
  have e : k = n := hk
  subst e
  exact ⟨hB, h⟩
 | cons o l ih =>
  intro k d a hl hk inv hB h
  have ho : ops[k]? = some o := (hl 0 (by simp)).symm
  simp only [List.length_cons, Region.lexHead, Bool.and_eq_true, List.contains_iff_mem] at hB
  simp only [List.length_cons] at hk
  have q : qOp P ops C k (wpQuiet P ops C K l) a := by unfold qOp; rw [ho]; exact h
  obtain ⟨v, hy, hK⟩ := yieldsIn_of_qOp ho q
  refine HeadQ.first ho (Region.noSelect_spec hsel) sink chain hn (by omega) (fun d' a' z => seqB_ready z.1) l.length d a inv (Region.free_spec ho hB.1.2) hB.1.1 hy ?_
  refine ih (k + 1) _ _ (fun j hj => ?_) (by omega) (inv.set hB.1.1 (by omega)) hB.2 hK
  have := hl (j + 1) (by simp; omega)
  rw [show k + 1 + j = k + (j + 1) by omega, <- this]
  rfl
theorem ZW {id : Nat} {Q : Exit -> Act -> World -> Prop} {a : Act} {w : World} {l : List Oper} (n : Nat) (hm : P.follows .mixedOrders = true) (hB : Region.lexTailB .any l.toArray n = true) (hC : C w.drew)
  (h : wpQuiet P l.toArray C (fun a' => ∀ w', C w' -> wpList P l.toArray Q (l.drop n) a' w') (l.take n) a) : (Code.region id l.toArray true).wp P Q a w := by
 simp only [Region.lexTailB, Bool.and_eq_true, decide_eq_true_eq] at hB
 obtain ⟨⟨⟨⟨hsel, hn⟩, sink⟩, chain⟩, lx⟩ := hB
 have tk : (l.take n).length = n := by rw [List.length_take]; simp at hn; omega
 have dk : (l.drop n).length = l.toArray.size - n := by simp
 have inv : HeadInv .any l.toArray n (Array.replicate l.toArray.size false) :=
  ⟨by simp, fun j oj _ z => by rw [getD_replicate_false] at z; exact absurd z (by decide), fun t _ ht => getD_in (by simpa using ht) (getD_replicate_false _ _)⟩
 refine wp_region_any hm ?_
 have H := HeadQ.lex (md := .any) (g := l.toArray.size - n) hsel sink chain hn (l.take n) 0 (Array.replicate l.toArray.size false) a (fun j hj => by
  rw [tk] at hj
  simp [hj]) (by omega) inv (by rw [tk]; exact lx) h
 have R := HeadQ.any (Q' := Q) (g := l.toArray.size - n) (fun d a' w' hw' z => by
  have := wpAny_of_seq (md := .any) (Q' := Q) (l.drop n) n d a' w' (fun j => by simp [List.getElem?_drop]) (by rw [dk]; exact z.1) (z.2 w' hw')
  rwa [dk] at this) (l.take n).length _ a w.drew hC H
 rw [tk, show n + (l.toArray.size - n) = l.toArray.size by omega] at R
 exact R
theorem Xc {id : Nat} {Q : Exit -> Act -> World -> Prop} {a : Act} {w : World} {l : List Oper} (n : Nat) (hm : P.follows .mixedOrders = true) (hB : Region.lexTailB .any l.toArray n = true)
  (h : wpQuiet P l.toArray (fun w' => ∃ p : Regrown, w' = grow (redrawn w p.d) p.os) (fun a' => ∀ w', (∃ p : Regrown, w' = grow (redrawn w p.d) p.os) -> wpList P l.toArray Q (l.drop n) a' w') (l.take n) a) :
  (Code.region id l.toArray true).wp P Q a w :=
 ZW n hm hB ⟨⟨w.drawn + 1, #[]⟩, by rw [grow_empty]; rfl⟩ h
theorem qP {id : Nat} {Q : Exit -> Act -> World -> Prop} {a : Act} {w : World} {l : List Oper} (n : Nat) (hm : P.follows .mixedOrders = true) (hB : Region.lexTailB .any l.toArray n = true)
  (h : wpQuiet P l.toArray (fun w' => ∃ m, w' = w.drewN m) (fun a' => ∀ w', (∃ m, w' = w.drewN m) -> wpList P l.toArray Q (l.drop n) a' w') (l.take n) a) :
  (Code.region id l.toArray true).wp P Q a w :=
 ZW n hm hB ⟨1, rfl⟩ h
end
theorem Gives.regrown {k : Nat} {args : Array Value} {v : Value} (h : Gives k args v) {w : World} {d : Nat} {os : Array Obj} : Calls Tryz.prog k args (grow (redrawn w d) os) fun e w'' => e = .returned v /\ ∃ p : Regrown, w'' = grow (redrawn w p.d) p.os :=
 (h _).regrown_of
end
section
open Go.RowKit Go.Sort
structure C4 (w : World) (b : Nat) (x0 x1 x2 x3 : Value) : Prop where
 c0 : w.cell? ⟨b, 0, none⟩ = some x0
 c1 : w.cell? ⟨b, 1, none⟩ = some x1
 c2 : w.cell? ⟨b, 2, none⟩ = some x2
 c3 : w.cell? ⟨b, 3, none⟩ = some x3
 f0 : w.frozen? ⟨b, 0, none⟩ = false
 f1 : w.frozen? ⟨b, 1, none⟩ = false
 f2 : w.frozen? ⟨b, 2, none⟩ = false
 f3 : w.frozen? ⟨b, 3, none⟩ = false
theorem C4.far {w : World} {b b' o : Nat} {x0 x1 x2 x3 y : Value} (h : C4 w b x0 x1 x2 x3) (n : b ≠ b') : C4 (w.setCell ⟨b', o, none⟩ y) b x0 x1 x2 x3 := by
 obtain ⟨a0, a1, a2, a3, f0, f1, f2, f3⟩ := h
 constructor <;> simp [go_sem, *]
theorem C4.put {w : World} {b : Nat} {x0 x1 x2 x3 : Value} (h : C4 w b x0 x1 x2 x3) (y0 y1 y2 y3 : Value) : C4 ((((w.setCell ⟨b, 0, none⟩ y0).setCell ⟨b, 1, none⟩ y1).setCell ⟨b, 2, none⟩ y2).setCell ⟨b, 3, none⟩ y3) b y0 y1 y2 y3 := by
 obtain ⟨a0, a1, a2, a3, f0, f1, f2, f3⟩ := h
 constructor <;> simp [go_sem, *]
structure C3 (w : World) (b : Nat) (x0 x1 x2 : Value) : Prop where
 c0 : w.cell? ⟨b, 0, none⟩ = some x0
 c1 : w.cell? ⟨b, 1, none⟩ = some x1
 c2 : w.cell? ⟨b, 2, none⟩ = some x2
 f0 : w.frozen? ⟨b, 0, none⟩ = false
 f1 : w.frozen? ⟨b, 1, none⟩ = false
 f2 : w.frozen? ⟨b, 2, none⟩ = false
theorem C3.keep {w w' : World} {B b : Nat} {x0 x1 x2 : Value} (h : C3 w b x0 x1 x2) (hb : Below B w w') (hB : b < B) : C3 w' b x0 x1 x2 :=
  ⟨(hb.cell (p := ⟨b, 0, none⟩) hB).trans h.c0, (hb.cell (p := ⟨b, 1, none⟩) hB).trans h.c1, (hb.cell (p := ⟨b, 2, none⟩) hB).trans h.c2,
   (hb.frozen (p := ⟨b, 0, none⟩) hB).trans h.f0, (hb.frozen (p := ⟨b, 1, none⟩) hB).trans h.f1, (hb.frozen (p := ⟨b, 2, none⟩) hB).trans h.f2⟩
theorem C3.lt {w : World} {b : Nat} {x0 x1 x2 : Value} (h : C3 w b x0 x1 x2) : b < w.heap.size := block_lt_of_cell h.c0
theorem C3.far {w : World} {b b' o : Nat} {x0 x1 x2 y : Value} (h : C3 w b x0 x1 x2) (n : b ≠ b') : C3 (w.setCell ⟨b', o, none⟩ y) b x0 x1 x2 := by
 obtain ⟨a0, a1, a2, f0, f1, f2⟩ := h
 constructor <;> simp [go_sem, *]
theorem C3.set0 {w : World} {b : Nat} {x0 x1 x2 : Value} (h : C3 w b x0 x1 x2) (y : Value) : C3 (w.setCell ⟨b, 0, none⟩ y) b y x1 x2 := by
 obtain ⟨a0, a1, a2, f0, f1, f2⟩ := h
 constructor <;> simp [go_sem, *]
theorem C3.set1 {w : World} {b : Nat} {x0 x1 x2 : Value} (h : C3 w b x0 x1 x2) (y : Value) : C3 (w.setCell ⟨b, 1, none⟩ y) b x0 y x2 := by
 obtain ⟨a0, a1, a2, f0, f1, f2⟩ := h
 constructor <;> simp [go_sem, *]
theorem C3.set2 {w : World} {b : Nat} {x0 x1 x2 : Value} (h : C3 w b x0 x1 x2) (y : Value) : C3 (w.setCell ⟨b, 2, none⟩ y) b x0 x1 y := by
 obtain ⟨a0, a1, a2, f0, f1, f2⟩ := h
 constructor <;> simp [go_sem, *]
theorem C3.put {w : World} {b : Nat} {x0 x1 x2 : Value} (h : C3 w b x0 x1 x2) (y0 y1 y2 : Value) : C3 (((w.setCell ⟨b, 0, none⟩ y0).setCell ⟨b, 1, none⟩ y1).setCell ⟨b, 2, none⟩ y2) b y0 y1 y2 := ((h.set0 y0).set1 y1).set2 y2
theorem C3.alloc {w : World} {b : Nat} {x0 x1 x2 : Value} (h : C3 w b x0 x1 x2) (o : Obj) : C3 (w.alloc o) b x0 x1 x2 := h.keep ((Below.refl w.heap.size w).alloc Vf o) h.lt
theorem C3.regrown {w : World} {b : Nat} {x0 x1 x2 : Value} (h : C3 w b x0 x1 x2) (d : Nat) (os : Array Obj) : C3 (grow (redrawn w d) os) b x0 x1 x2 := h.keep (below_regrown w d os) h.lt
end
section
open Go Go.Sort Go.RowKit
def tokV : Value := .tuple #[.bool true, .bool false]
section
variable {P : Program} {ops : Array Oper} {md : Region.Mode} {C : World -> Prop} {ts : List Tmp} {R : Tmp -> Value -> World -> Prop}
def SimT (ts : List Tmp) (R : Tmp -> Value -> World -> Prop) (a b : Act) (w : World) (t : Tmp) : Prop :=
 (t ∈ ts /\ b.tmps.getD t undef = tokV /\ R t (a.tmps.getD t undef) w) \/ (¬ (t ∈ ts /\ b.tmps.getD t undef = tokV) /\ a.tmps.getD t undef = b.tmps.getD t undef)
structure SimA (ts : List Tmp) (R : Tmp -> Value -> World -> Prop) (a b : Act) (w : World) : Prop where
 size : a.tmps.size = b.tmps.size
 defs : a.defers = b.defers
 all : ∀ t, SimT ts R a b w t
def jn (P : Program) (w : World) (r : Value -> World -> Prop) : Result Next -> Prop
 | .ok (.value u) w' => Below w.heap.size w w' /\ r u w'
 | .ok .skip w' => Below w.heap.size w w' /\ r undef w'
 | .ok (.enter f args) w' => Below w.heap.size w w' /\ Calls P f args w' (fun e w'' => ∃ v, e = .returned v /\ r v w'' /\ Below w.heap.size w w'')
 | _ => False
def stepV (P : Program) (ops : Array Oper) (C : World -> Prop) (ts : List Tmp) (R : Tmp -> Value -> World -> Prop) (o : Oper) (x : Value) (b : Act) : Prop :=
 (¬ (x = tokV /\ ∃ d ∈ ts, o.dst = some d) /\ ∀ w a, C w -> (∀ t ∈ o.looksAt ops, SimT ts R a b w t) -> jn P w (fun u _ => u = x) ((execOp a.eval o).run P w))
 \/ (x = tokV /\ ∃ d ∈ ts, o.dst = some d /\ d < b.tmps.size /\ ∀ w a, C w -> (∀ t ∈ o.looksAt ops, SimT ts R a b w t) -> jn P w (R d) ((execOp a.eval o).run P w))
def yieldS (P : Program) (ops : Array Oper) (C : World -> Prop) (ts : List Tmp) (R : Tmp -> Value -> World -> Prop) (o : Oper) (x : Value) (b : Act) : Prop :=
 (Region.wanted o (yielded ops b.tmps) = true /\ stepV P ops C ts R o x b) \/ (Region.wanted o (yielded ops b.tmps) = false /\ x = undef)
def sOp (P : Program) (ops : Array Oper) (C : World -> Prop) (ts : List Tmp) (R : Tmp -> Value -> World -> Prop) (i : Nat) (K : Act -> Prop) (b : Act) : Prop :=
 match ops[i]? with
 | none => K b
 | some o => ∃ x, yieldS P ops C ts R o x b /\ K (b.put o.dst x)
def wpS (P : Program) (ops : Array Oper) (C : World -> Prop) (ts : List Tmp) (R : Tmp -> Value -> World -> Prop) (K : Act -> Prop) : List Oper -> Act -> Prop
 | [], b => K b
 | o :: l, b => ∃ x, yieldS P ops C ts R o x b /\ wpS P ops C ts R K l (b.put o.dst x)
theorem kj (a : Act) (d : Option Tmp) (v : Value) (t : Tmp) : (a.put d v).tmps.getD t undef = if d = some t /\ t < a.tmps.size then v else a.tmps.getD t undef := by
 cases d with
 | none => simp [Act.put]
 | some d =>
  simp only [Act.put, Option.some.injEq]
  by_cases e : d = t
  ·subst e
   by_cases h : d < a.tmps.size
   ·simp [h]
   ·simp [h]
  ·simp [e, Array.getElem?_setIfInBounds_ne e]
theorem xk (a : Act) (d : Option Tmp) (v : Value) : (a.put d v).tmps.size = a.tmps.size := by cases d <;> simp [Act.put]
theorem vl (a : Act) (d : Option Tmp) (v : Value) : (a.put d v).defers = a.defers := by cases d <;> rfl
theorem simT_put {a b : Act} {w : World} {d : Option Tmp} {v : Value} {t : Tmp} (h : d ≠ some t) : SimT ts R a (b.put d v) w t ↔ SimT ts R a b w t := by
 unfold SimT
 rw [kj, if_neg (fun e => h e.1)]
theorem Xd {o oi : Oper} {x v : Value} {b : Act} (h : ∀ d, oi.dst = some d -> d ∉ o.looksAt ops) : stepV P ops C ts R o x (b.put oi.dst v) ↔ stepV P ops C ts R o x b := by
 have e : ∀ a w, (∀ t ∈ o.looksAt ops, SimT ts R a (b.put oi.dst v) w t) ↔ (∀ t ∈ o.looksAt ops, SimT ts R a b w t) := fun a w =>
  forall_congr' fun t => forall_congr' fun ht => simT_put (fun q => h t q ht)
 unfold stepV
 simp only [e, xk]
theorem ZX {o oi : Oper} {x v : Value} {b : Act} (h : ∀ d, oi.dst = some d -> d ∉ o.looksAt ops) : yieldS P ops C ts R o x (b.put oi.dst v) ↔ yieldS P ops C ts R o x b := by
 unfold yieldS
 rw [wanted_put o b oi.dst v h, Xd h]
theorem sOp_mono {i : Nat} {b : Act} {K K' : Act -> Prop} (h : ∀ b, K b -> K' b) (hh : sOp P ops C ts R i K b) : sOp P ops C ts R i K' b := by
 unfold sOp at *
 split
 ·rename_i e; rw [e] at hh; exact h _ hh
 ·rename_i o e
  rw [e] at hh
  obtain ⟨x, h1, h2⟩ := hh
  exact ⟨x, h1, h _ h2⟩
theorem yieldS.sOp {i : Nat} {o : Oper} {v : Value} {b : Act} (hi : ops[i]? = some o) (hy : yieldS P ops C ts R o v b) {K : Act -> Prop} (h : K (b.put o.dst v)) : sOp P ops C ts R i K b := by
 unfold Go.Proofs.YtifoijbpbigaaaaGreatDoor.sOp
 rw [hi]
 exact ⟨v, hy, h⟩
theorem sOp_put {j : Nat} {oi oj : Oper} {v : Value} (hj : ops[j]? = some oj) (hap : oi.apart ops oj = true) {K : Act -> Prop} {b : Act}
  (hy : yieldS P ops C ts R oi v b) (h : sOp P ops C ts R j K (b.put oi.dst v)) : sOp P ops C ts R j (fun b' => yieldS P ops C ts R oi v b' /\ K (b'.put oi.dst v)) b := by
 obtain ⟨h1, h2, h3⟩ := Oper.apart_spec hap
 unfold sOp at *
 rw [hj] at h ⊢
 obtain ⟨x, hx, hn⟩ := h
 exact ⟨x, (ZX h1).1 hx, (ZX h3).2 hy, by rw [<- Act.put_comm b v x h2]; exact hn⟩
def xJ (ts : List Tmp) (ops : Array Oper) : Bool := ops.all fun o => match o.guard with
 | some (g, _) => (match (ops[g]?).bind (·.dst) with
  | some t => !ts.contains t
  | none => true)
 | none => true
theorem Xe {i : Nat} {o : Oper} {a b : Act} {w : World} (hg : xJ ts ops = true) (hi : ops[i]? = some o) (h : SimA ts R a b w) : Region.wanted o (yielded ops a.tmps) = Region.wanted o (yielded ops b.tmps) := by
 unfold Region.wanted
 cases e : o.guard with
 | none => rfl
 | some gw =>
  obtain ⟨g, want⟩ := gw
  have k := Array.all_eq_true_iff_forall_mem.1 hg o (Array.mem_of_getElem? hi)
  rw [e] at k
  simp only at k
  have hy : yielded ops a.tmps g = yielded ops b.tmps g := by
   unfold yielded
   cases ht : (ops[g]?).bind (·.dst) with
   | none => rfl
   | some t =>
    rw [ht] at k
    have nt : t ∉ ts := by simpa using k
    have z : a.tmps.getD t undef = b.tmps.getD t undef := by
     rcases h.all t with ⟨q, _⟩ | ⟨_, q⟩
     ·exact absurd q nt
     ·exact q
    have z2 : a.tmps[t]? = b.tmps[t]? := by
     by_cases lt : t < a.tmps.size
     ·have lt2 : t < b.tmps.size := by rw [<- h.size]; exact lt
      simp [lt, lt2] at z
      simp [lt, lt2, z]
     ·have lt2 : ¬ t < b.tmps.size := by rw [<- h.size]; exact lt
      rw [Array.getElem?_eq_none (Nat.le_of_not_lt lt), Array.getElem?_eq_none (Nat.le_of_not_lt lt2)]
    show (match a.tmps[t]? with | some (Value.bool b) => some b | _ => none) = (match b.tmps[t]? with | some (Value.bool b) => some b | _ => none)
    rw [z2]
  simp only [hy]
theorem vm {a b : Act} {w w' : World} {d : Option Tmp} {u x : Value} (stab : ∀ t v w w', Below w.heap.size w w' -> R t v w -> R t v w') (h : SimA ts R a b w) (hb : Below w.heap.size w w')
  (hx : (¬ (x = tokV /\ ∃ t ∈ ts, d = some t) /\ u = x) \/ (x = tokV /\ ∃ t ∈ ts, d = some t /\ t < b.tmps.size /\ R t u w')) : SimA ts R (a.put d u) (b.put d x) w' := by
 refine ⟨by rw [xk, xk]; exact h.size, by rw [vl, vl]; exact h.defs, fun t => ?_⟩
 unfold SimT
 rw [kj, kj, h.size]
 by_cases c : d = some t /\ t < b.tmps.size
 ·rw [if_pos c, if_pos c]
  rcases hx with ⟨n, rfl⟩ | ⟨rfl, t', m, e, l, r⟩
  ·exact Or.inr ⟨fun q => n ⟨q.2, t, q.1, c.1⟩, rfl⟩
  ·rw [c.1] at e
   cases e
   exact Or.inl ⟨m, rfl, r⟩
 ·rw [if_neg c, if_neg c]
  rcases h.all t with ⟨p, q, r⟩ | q
  ·exact Or.inl ⟨p, q, stab _ _ _ _ hb r⟩
  ·exact Or.inr q
theorem Xf {i : Nat} {a b : Act} {K : Act -> Prop} {K' : Act -> World -> Prop} {Q' : Exit -> Act -> World -> Prop} {w : World} (stab : ∀ t v w w', Below w.heap.size w w' -> R t v w -> R t v w') (hC : ∀ w w', C w -> Below w.heap.size w w' -> C w')
  (hg : xJ ts ops = true) (hw : C w) (hs : SimA ts R a b w) (h : ∀ a' b' w', C w' -> SimA ts R a' b' w' -> K b' -> K' a' w') (hh : sOp P ops C ts R i K b) : wpOp P ops Q' i K' a w := by
 unfold sOp at hh
 unfold wpOp
 split
 ·rename_i e; rw [e] at hh; exact h _ _ _ hw hs hh
 ·rename_i o e
  rw [e] at hh
  obtain ⟨x, hy, hK⟩ := hh
  rw [Xe hg e hs]
  rcases hy with ⟨hwa, hy⟩ | ⟨hwa, rfl⟩
  ·rw [if_pos hwa]
   refine Or.inl ?_
   obtain ⟨r, hr, hu⟩ : ∃ r : Value -> World -> Prop, jn P w r ((execOp a.eval o).run P w) /\ ∀ u w', Below w.heap.size w w' -> r u w' -> K' (a.put o.dst u) w' := by
    rcases hy with ⟨n, hy⟩ | ⟨rfl, d, m, ed, l, hy⟩
    ·exact ⟨_, hy w a hw (fun t _ => hs.all t), fun u w' hb e => h _ _ _ (hC _ _ hw hb) (vm stab hs hb (Or.inl ⟨n, e⟩)) hK⟩
    ·exact ⟨_, hy w a hw (fun t _ => hs.all t), fun u w' hb e => h _ _ _ (hC _ _ hw hb) (vm stab hs hb (Or.inr ⟨rfl, d, m, ed, l, e⟩)) hK⟩
   unfold Oper.wp
   generalize (execOp a.eval o).run P w = res at *
   cases res with
   | ok n w' =>
    cases n <;> simp only [jn] at hr <;> simp only [Oper.upon]
    case value u => exact hu _ _ hr.1 hr.2
    case skip => exact hu _ _ hr.1 hr.2
    case enter f args =>
     refine hr.2.mono fun e w'' ⟨v, he, hv, hb⟩ => ?_
     subst he
     exact hu _ _ hb hv
   | halt x w' => simp only [jn] at hr
  ·rw [if_neg (by rw [hwa]; decide)]
   refine h _ _ _ hw (vm stab hs (Below.refl _ _) (Or.inl ⟨fun q => ?_, rfl⟩)) hK
   have := q.1
   unfold tokV at this
   cases this
def HeadS (P : Program) (md : Region.Mode) (ops : Array Oper) (C : World -> Prop) (ts : List Tmp) (R : Tmp -> Value -> World -> Prop) (n : Nat) (L : Array Bool -> Act -> Prop) : Nat -> Array Bool -> Act -> Prop
 | 0, d, b => L d b
 | f + 1, d, b => Region.ready md ops d ≠ [] /\ ∀ i, i ∈ Region.ready md ops d -> i < n /\ sOp P ops C ts R i (fun b' => HeadS P md ops C ts R n L f (d.setIfInBounds i true) b') b
theorem HeadS.any {n g : Nat} {L : Array Bool -> Act -> Prop} {Q' : Exit -> Act -> World -> Prop} (stab : ∀ t v w w', Below w.heap.size w w' -> R t v w -> R t v w') (hC : ∀ w w', C w -> Below w.heap.size w w' -> C w') (hg : xJ ts ops = true)
  (tl : ∀ d a b w, C w -> SimA ts R a b w -> L d b -> wpAny P md ops Q' g d a w) (f : Nat) :
  ∀ (d : Array Bool) (a b : Act) (w : World), C w -> SimA ts R a b w -> HeadS P md ops C ts R n L f d b -> wpAny P md ops Q' (f + g) d a w := by
 induction f with
 | zero => intro d a b w hw hs h; rw [Nat.zero_add]; exact tl d a b w hw hs h
 | succ f ih =>
  intro d a b w hw hs h
  have e : f + 1 + g = (f + g) + 1 := by omega
  rw [e]
  refine ⟨fun z => absurd z h.1, fun i hi => ?_⟩
  exact Xf stab hC hg hw hs (fun a' b' w' hw' hs' k => ih _ a' b' w' hw' hs' k) (h.2 i hi).2
theorem HeadS.first {n i : Nat} {oi : Oper} {v : Value} {L : Array Bool -> Act -> Prop} (hi : ops[i]? = some oi)
  (sink : Region.sinkB md ops n = true) (chain : Region.chainB md ops n = true) (hn : n < ops.size) (hin : i < n) (late : ∀ d b, L d b -> ∀ j ∈ Region.ready md ops d, n <= j) (f : Nat) :
  ∀ (d : Array Bool) (b : Act), HeadInv md ops n d ->
   (∀ j oj, ops[j]? = some oj -> j ≠ i -> d.getD j true = false -> (∀ e ∈ oj.after, Region.binds md e = true -> e.on ≠ i) -> oi.apart ops oj = true) ->
   i ∈ Region.ready md ops d -> yieldS P ops C ts R oi v b -> HeadS P md ops C ts R n L f (d.setIfInBounds i true) (b.put oi.dst v) -> HeadS P md ops C ts R n L (f + 1) d b := by
 induction f with
 | zero =>
  intro d b inv free hr hy H
  refine ⟨List.ne_nil_of_mem hr, fun j hj => ?_⟩
  have lt : j < n := Nat.lt_of_not_le fun h => tail_waits sink chain hn inv _ i rfl hin (mem_ready.1 hr).1 j h hj
  refine ⟨lt, ?_⟩
  rcases Nat.decEq j i with ne | e
  ·exact absurd (late _ _ H j (ready_mono hj ne)) (by omega)
  ·subst e; exact hy.sOp hi H
 | succ f ih =>
  intro d b inv free hr hy H
  refine ⟨List.ne_nil_of_mem hr, fun j hj => ?_⟩
  have lt : j < n := Nat.lt_of_not_le fun h => tail_waits sink chain hn inv _ i rfl hin (mem_ready.1 hr).1 j h hj
  refine ⟨lt, ?_⟩
  rcases Nat.decEq j i with ne | e
  ·obtain ⟨ju, oj, hoj, all⟩ := mem_ready.1 hj
   have nw : ∀ e ∈ oj.after, Region.binds md e = true -> e.on ≠ i := by
    intro e he hb q
    have := all e he hb
    rw [q, getD_both (mem_ready.1 hr).1] at this
    exact Bool.false_ne_true this
   have k := sOp_put hoj (free j oj hoj ne ju nw) hy (H.2 j (ready_mono hj ne)).2
   refine sOp_mono (fun b' x => ?_) k
   refine ih (d.setIfInBounds j true) b' (inv.set hj lt) (fun m om hm mi mu mw => ?_) (ready_mono hr (Ne.symm ne)) x.1 (by rw [Array.setIfInBounds_comm _ _ ne]; exact x.2)
   refine free m om hm mi ?_ mw
   rcases Nat.decEq j m with jm | jm
   ·rw [getD_set_ne true jm] at mu; exact mu
   ·subst jm; exact ju
  ·subst e; exact hy.sOp hi H
theorem HeadS.lex {n g : Nat} {K : Act -> Prop} (sink : Region.sinkB md ops n = true) (chain : Region.chainB md ops n = true) (hn : n < ops.size) (l : List Oper) :
  ∀ (k : Nat) (d : Array Bool) (b : Act), (∀ j, j < l.length -> l[j]? = ops[k + j]?) -> k + l.length = n -> HeadInv md ops n d -> Region.lexHead md ops g l.length k d = true -> wpS P ops C ts R K l b ->
  HeadS P md ops C ts R n (fun d' b' => Region.seqB md ops g n d' = true /\ K b') l.length d b := by
 induction l with
 | nil =>
  intro k d b _ hk _ hB h
  have e : k = n := hk
  subst e
  exact ⟨hB, h⟩
 | cons o l ih =>
  intro k d b hl hk inv hB h
  have ho : ops[k]? = some o := (hl 0 (by simp)).symm
  simp only [List.length_cons, Region.lexHead, Bool.and_eq_true, List.contains_iff_mem] at hB
  simp only [List.length_cons] at hk
  obtain ⟨v, hy, hK⟩ := h
  refine HeadS.first ho sink chain hn (by omega) (fun d' b' z => seqB_ready z.1) l.length d b inv (Region.free_spec ho hB.1.2) hB.1.1 hy ?_
  refine ih (k + 1) _ _ (fun j hj => ?_) (by omega) (inv.set hB.1.1 (by omega)) hB.2 hK
  have := hl (j + 1) (by simp; omega)
  rw [show k + 1 + j = k + (j + 1) by omega, <- this]
  rfl
def zd (vs : Tmp -> Value) : List Tmp -> Act -> Act
 | [], b => b
 | t :: r, b => (zd vs r b).put (some t) (vs t)
theorem ZY (vs : Tmp -> Value) (t : Tmp) : ∀ (l : List Tmp) (b : Act), (zd vs l b).tmps.size = b.tmps.size /\ (zd vs l b).defers = b.defers /\ (zd vs l b).tmps.getD t undef = if t ∈ l /\ t < b.tmps.size then vs t else b.tmps.getD t undef := by
 intro l
 induction l with
 | nil => intro b; simp [zd]
 | cons s r ih =>
  intro b
  obtain ⟨h1, h2, h3⟩ := ih b
  refine ⟨by unfold zd; rw [xk, h1], by unfold zd; rw [vl, h2], ?_⟩
  unfold zd
  rw [kj, h1, h3]
  by_cases e : s = t
  ·subst e
   by_cases l : s < b.tmps.size
   ·simp [l]
   ·simp [l]
  ·by_cases l : t < b.tmps.size
   ·simp [l, e, Ne.symm e]
   ·simp [l, e]
theorem sim_fill {a b : Act} {w : World} (h : SimA ts R a b w) : ∃ vs : Tmp -> Value, a = zd vs ts b /\ ∀ t ∈ ts, b.tmps.getD t undef = tokV -> R t (vs t) w := by
 refine ⟨fun t => a.tmps.getD t undef, ?_, fun t ht e => ?_⟩
 ·obtain ⟨at_, ad⟩ := a
  obtain ⟨f1, f2, _⟩ := ZY (fun t => at_.getD t undef) 0 ts b
  have e1 : at_ = (zd (fun t => at_.getD t undef) ts b).tmps := by
   refine Array.ext (by rw [f1]; exact h.size) fun i h1 h2 => ?_
   have g := (ZY (fun t => at_.getD t undef) i ts b).2.2
   have z : at_.getD i undef = (zd (fun t => at_.getD t undef) ts b).tmps.getD i undef := by
    rw [g]
    by_cases c : i ∈ ts /\ i < b.tmps.size
    ·rw [if_pos c]
    ·rw [if_neg c]
     have lt : i < b.tmps.size := by rw [<- h.size]; exact h1
     rcases h.all i with ⟨q, _⟩ | ⟨_, q⟩
     ·exact absurd ⟨q, lt⟩ c
     ·exact q
   have l1 : at_.getD i undef = at_[i] := by simp [h1]
   have l2 : (zd (fun t => at_.getD t undef) ts b).tmps.getD i undef = (zd (fun t => at_.getD t undef) ts b).tmps[i] := by rw [Array.getD_eq_getD_getElem?, Array.getElem?_eq_getElem h2]; rfl
   rw [<- l1, <- l2, z]
  have e2 : ad = (zd (fun t => at_.getD t undef) ts b).defers := by rw [f2]; exact h.defs
  show (⟨at_, ad⟩ : Act) = zd (fun t => at_.getD t undef) ts b
  calc (⟨at_, ad⟩ : Act) = ⟨(zd (fun t => at_.getD t undef) ts b).tmps, (zd (fun t => at_.getD t undef) ts b).defers⟩ := by rw [<- e1, <- e2]
   _ = _ := rfl
 ·rcases h.all t with ⟨_, _, r⟩ | ⟨n, _⟩
  ·exact r
  ·exact absurd ⟨ht, e⟩ n
def qc (w : World) : World -> Prop := fun w' => ∃ p : Regrown, w' = grow (redrawn w p.d) p.os
theorem zk {w w' : World} : qc w w' ↔ Below w.heap.size w w' :=
 ⟨fun ⟨p, e⟩ => by rw [e]; exact below_regrown _ _ _, fun h => regrown_of_below h⟩
theorem Xg {id : Nat} {Q : Exit -> Act -> World -> Prop} {a : Act} {w : World} {l : List Oper} (n : Nat) (ts : List Tmp) (R : Tmp -> Value -> World -> Prop) (hm : P.follows .mixedOrders = true)
  (hB : Region.lexTailB .any l.toArray n = true) (hg : xJ ts l.toArray = true) (h0 : ∀ t ∈ ts, a.tmps.getD t undef ≠ tokV) (stab : ∀ t v w w', Below w.heap.size w w' -> R t v w -> R t v w')
  (h : wpS P l.toArray (qc w) ts R (fun b => ∀ w' vs, qc w w' -> (∀ t ∈ ts, b.tmps.getD t undef = tokV -> R t (vs t) w') -> wpList P l.toArray Q (l.drop n) (zd vs ts b) w') (l.take n) a) :
  (Code.region id l.toArray true).wp P Q a w := by
 simp only [Region.lexTailB, Bool.and_eq_true, decide_eq_true_eq] at hB
 obtain ⟨⟨⟨⟨hsel, hn⟩, sink⟩, chain⟩, lx⟩ := hB
 have tk : (l.take n).length = n := by rw [List.length_take]; simp at hn; omega
 have dk : (l.drop n).length = l.toArray.size - n := by simp
 have inv : HeadInv .any l.toArray n (Array.replicate l.toArray.size false) :=
  ⟨by simp, fun j oj _ z => by rw [getD_replicate_false] at z; exact absurd z (by decide), fun t _ ht => getD_in (by simpa using ht) (getD_replicate_false _ _)⟩
 have hC : ∀ w1 w2, qc w w1 -> Below w1.heap.size w1 w2 -> qc w w2 := fun w1 w2 h1 h2 => zk.2 ((zk.1 h1).trans (h2.mono (zk.1 h1).size))
 have s0 : SimA ts R a a w.drew := ⟨rfl, rfl, fun t => Or.inr ⟨fun q => h0 t q.1 q.2, rfl⟩⟩
 have c0 : qc w w.drew := zk.2 ⟨rfl, rfl, rfl, Vf, fun _ _ => rfl⟩
 refine wp_region_any hm ?_
 have H := HeadS.lex (md := .any) (g := l.toArray.size - n) sink chain hn (l.take n) 0 (Array.replicate l.toArray.size false) a (fun j hj => by
  rw [tk] at hj
  simp [hj]) (by omega) inv (by rw [tk]; exact lx) h
 have X := HeadS.any (Q' := Q) (g := l.toArray.size - n) stab hC hg (fun d a' b' w' hw' hs' z => by
  obtain ⟨vs, rfl, hv⟩ := sim_fill hs'
  have := wpAny_of_seq (md := .any) (Q' := Q) (l.drop n) n d (zd vs ts b') w' (fun j => by simp [List.getElem?_drop]) (by rw [dk]; exact z.1) (z.2 w' vs hw' hv)
  rwa [dk] at this) (l.take n).length _ a a w.drew c0 s0 H
 rw [tk, show n + (l.toArray.size - n) = l.toArray.size by omega] at X
 exact X
@[go_sem] def kq (P : Program) (w : World) (v : Value) : Result Next -> Prop
 | .ok (.value u) w' => w' = w /\ u = v
 | .ok .skip w' => w' = w /\ v = undef
 | .ok (.enter f args) w' => w' = w /\ Calls P f args w (fun e w'' => e = .returned v /\ qc w w'')
 | _ => False
theorem Xh {w : World} {v : Value} {r : Result Next} (h : kq P w v r) : jn P w (fun u _ => u = v) r := by
 cases r with
 | ok n w' =>
  cases n <;> simp only [kq] at h <;> simp only [jn]
  case value u => exact ⟨by rw [h.1]; exact Below.refl _ _, h.2⟩
  case skip => exact ⟨by rw [h.1]; exact Below.refl _ _, h.2.symm⟩
  case enter f args =>
   obtain ⟨rfl, hc⟩ := h
   exact ⟨Below.refl _ _, hc.mono fun e w'' ⟨he, hb⟩ => ⟨v, he, rfl, zk.1 hb⟩⟩
 | halt x w' => simp only [kq] at h
@[go_sem] def quietS (P : Program) (o : Oper) (b : Act) (w0 : World) (K : Act -> Prop) : Prop := ∃ v, (∀ p : Regrown, kq P (grow (redrawn w0 p.d) p.os) v ((execOp b.eval o).run P (grow (redrawn w0 p.d) p.os))) /\ K (b.put o.dst v)
def Z4 (ts : List Tmp) (ops : Array Oper) (o : Oper) : Bool := (o.looksAt ops).all (fun t => !ts.contains t) && (match o.dst with | some d => !ts.contains d | none => true) && (match o.op with | .select _ _ => false | _ => true)
theorem Z6 {o : Oper} {a b : Act} {w : World} (hs : ∀ cs d, o.op ≠ .select cs d) (hp : ∀ t ∈ o.looksAt ops, t ∉ ts) (h : ∀ t ∈ o.looksAt ops, SimT ts R a b w t) : execOp a.eval o = execOp b.eval o := by
 refine execOp_congr o hs fun x hx => ?_
 cases x with
 | tmp t =>
  have m : t ∈ o.looksAt ops := List.mem_append_left _ (List.mem_filterMap.2 ⟨.tmp t, by simpa using hx, rfl⟩)
  rcases h t m with ⟨q, _⟩ | ⟨_, q⟩
  ·exact absurd q (hp t m)
  ·exact q
 | _ => rfl
theorem zm {K : Act -> Prop} {b : Act} (h : K b) : wpS P ops C ts R K [] b := h
theorem ze {w0 : World} {K0 : Act -> Prop} {b : Act} {o : Oper} {rest : List Oper} (hp : Z4 ts ops o = true)
  (h : ∀ K : Act -> Prop, (∀ b, wpS P ops (qc w0) ts R K0 rest b -> K b) -> if Region.wanted o (yielded ops b.tmps) then quietS P o b w0 K else K (b.put o.dst undef)) : wpS P ops (qc w0) ts R K0 (o :: rest) b := by
 have k := h _ (fun _ h => h)
 simp only [Z4, Bool.and_eq_true, List.all_eq_true] at hp
 obtain ⟨⟨p1, p2⟩, p3⟩ := hp
 split at k
 ·rename_i hw
  obtain ⟨v, hv, hk⟩ := k
  refine ⟨v, Or.inl ⟨hw, Or.inl ⟨?_, fun w a hC hl => ?_⟩⟩, hk⟩
  ·rintro ⟨_, d, m, e⟩
   rw [e] at p2
   simp at p2
   exact p2 m
  ·obtain ⟨p, rfl⟩ := hC
   rw [Z6 (fun cs d e => by rw [e] at p3; cases p3) (fun t ht => by have := p1 t ht; simpa using this) hl]
   exact Xh (hv p)
 ·rename_i hw
  exact ⟨undef, Or.inr ⟨by simpa using hw, rfl⟩, k⟩
theorem Z7 {w0 : World} {K0 : Act -> Prop} {b : Act} {o : Oper} {rest : List Oper} (d : Tmp) (hd : o.dst = some d) (hm : d ∈ ts) (hs : d < b.tmps.size) (hw : Region.wanted o (yielded ops b.tmps) = true)
  (hp : (o.looksAt ops).all (fun t => !ts.contains t) = true) (hsel : ∀ cs d, o.op ≠ .select cs d)
  (h : ∀ p : Regrown, jn P (grow (redrawn w0 p.d) p.os) (R d) ((execOp b.eval o).run P (grow (redrawn w0 p.d) p.os))) (k : wpS P ops (qc w0) ts R K0 rest (b.put o.dst tokV)) : wpS P ops (qc w0) ts R K0 (o :: rest) b := by
 refine ⟨tokV, Or.inl ⟨hw, Or.inr ⟨rfl, d, hm, hd, hs, fun w a hC hl => ?_⟩⟩, k⟩
 obtain ⟨p, rfl⟩ := hC
 rw [Z6 hsel (fun t ht => by have := List.all_eq_true.1 hp t ht; simpa using this) hl]
 exact h p
end
structure Spec where
 r : Value -> World -> Prop
 stab : ∀ v w w', Below w.heap.size w w' -> r v w -> r v w'
def xm (l : List (Tmp × Spec)) (t : Tmp) (v : Value) (w : World) : Prop := ((l.lookup t).map fun s => s.r v w).getD False
theorem Xi (l : List (Tmp × Spec)) (t : Tmp) (v : Value) (w w' : World) (hb : Below w.heap.size w w') (h : xm l t v w) : xm l t v w' := by
 unfold xm at *
 cases e : l.lookup t with
 | none => rw [e] at h; exact h
 | some s => rw [e] at h; exact s.stab _ _ _ hb h
theorem zn {P : Program} {id : Nat} {Q : Exit -> Act -> World -> Prop} {a : Act} {w : World} {l : List Oper} (n : Nat) (sp : List (Tmp × Spec)) (ts : List Tmp) (hm : P.follows .mixedOrders = true)
  (hB : Region.lexTailB .any l.toArray n = true) (hg : xJ ts l.toArray = true) (h0 : ∀ t ∈ ts, a.tmps.getD t undef ≠ tokV)
  (h : wpS P l.toArray (qc w) ts (xm sp) (fun b => ∀ w' vs, qc w w' -> (∀ t ∈ ts, b.tmps.getD t undef = tokV -> xm sp t (vs t) w') -> wpList P l.toArray Q (l.drop n) (zd vs ts b) w') (l.take n) a) :
  (Code.region id l.toArray true).wp P Q a w := Xg n ts (xm sp) hm hB hg h0 (Xi sp) h
theorem Gives.later {k : Nat} {args : Array Value} {v : Value} (h : Gives k args v) {w : World} : Calls Tryz.prog k args w fun e w'' => e = .returned v /\ qc w w'' := (h w).mono fun _ _ ⟨a, b⟩ => ⟨a, zk.2 b⟩
theorem jB {P : Program} {k : Nat} {args : Array Value} {v : Value} {w : World} (h : Calls P k args w fun e w' => e = .returned v /\ Below w.heap.size w w') : Calls P k args w fun e w'' => e = .returned v /\ qc w w'' := h.mono fun _ _ ⟨a, b⟩ => ⟨a, zk.2 b⟩
def Shows (n : Nat) (cs : List Value) (v : Value) (w : World) : Prop := ∃ g, v = .slice (some ⟨g, 0, none⟩) n n /\ g < w.heap.size /\ ∀ i u, cs[i]? = some u -> w.cell? ⟨g, i, none⟩ = some u
theorem Shows.stab {n : Nat} {cs : List Value} {v : Value} {w w' : World} (hb : Below w.heap.size w w') (h : Shows n cs v w) : Shows n cs v w' := by
 obtain ⟨g, e, l, c⟩ := h
 exact ⟨g, e, Nat.lt_of_lt_of_le l hb.size, fun i u hu => (hb.cell (p := ⟨g, i, none⟩) l).trans (c i u hu)⟩
def showS (n : Nat) (cs : List Value) : Spec := ⟨Shows n cs, fun _ _ _ => Shows.stab⟩
theorem qw (w : World) (cs : List Value) (T : TypeId) (i : Nat) (u : Value) (h : cs[i]? = some u) : (w.alloc (.cells cs.toArray T)).cell? ⟨w.heap.size, i, none⟩ = some u /\ (w.alloc (.cells cs.toArray T)).frozen? ⟨w.heap.size, i, none⟩ = false := by
 simp [go_sem, h]
theorem Xj {P : Program} {w : World} {n g : Nat} {T : TypeId} {cs : List Value} (e : g = w.heap.size) : jn P w (Shows n cs) (.ok (.value (.slice (some ⟨g, 0, none⟩) n n)) (w.alloc (.cells cs.toArray T))) := by
 subst e
 exact ⟨(Below.refl _ _).alloc Vf _, _, rfl, by simp, fun i u h => (qw w cs T i u h).1⟩
end
section
open Go.RowKit
def Sees (w : World) (B : Nat) (A : Option Addr) (xs : List Value) : Prop :=
 xs ≠ [] -> ∃ ad, A = some ad /\ ad.block < B /\ ∀ j u, xs[j]? = some u -> w.cell? (ad.add j) = some u
theorem zj (a : Addr) (n : Nat) : (a.add n).block = a.block := by unfold Addr.add; split <;> rfl
theorem Sees.nil (w : World) (B : Nat) (A : Option Addr) : Sees w B A [] := fun h => absurd rfl h
theorem Sees.at {w : World} {B : Nat} {A : Option Addr} {xs : List Value} (h : Sees w B A xs) {k : Nat} (hk : k < xs.length) : ∃ ad, A = some ad /\ ad.block < B /\ w.cell? (ad.add k) = some xs[k] := by
 obtain ⟨ad, e, b, c⟩ := h (fun e => by subst e; cases hk)
 exact ⟨ad, e, b, c k _ (List.getElem?_eq_getElem hk)⟩
theorem Sees.below {w w' : World} {B B' : Nat} {A : Option Addr} {xs : List Value} (h : Sees w B A xs) (hb : Below B' w w') (hB : B <= B') : Sees w' B A xs := fun n => by
 obtain ⟨ad, e, b, c⟩ := h n
 exact ⟨ad, e, b, fun j u hu => (hb.cell (by rw [zj]; omega)).trans (c j u hu)⟩
theorem Sees.more {w : World} {B B' : Nat} {A : Option Addr} {xs : List Value} (h : Sees w B A xs) (hB : B <= B') : Sees w B' A xs := fun n => by
 obtain ⟨ad, e, b, c⟩ := h n
 exact ⟨ad, e, by omega, c⟩
theorem Sees.of_own {w : World} {base : Nat} {T : TypeId} {A : Option Addr} {n c : Nat} {xs : List Value} (h : w.ownsRow base T 1 (.slice A n c) n xs) : Sees w w.heap.size A xs := fun hne => by
 rcases h.2 with ⟨_, h0⟩ | ⟨g, cap, cur, e, _, hg, _⟩
 ·exact absurd (List.eq_nil_of_length_eq_zero (by have := h.1; simpa [h0] using this)) hne
 ·injection e with e1
  subst e1
  exact ⟨_, rfl, block_lt_of_row hg, h.cells (g := g) rfl⟩
where
 block_lt_of_row {w : World} {g : Nat} {o : Obj} (h : w.heap[g]? = some o) : g < w.heap.size := by
  rcases Nat.lt_or_ge g w.heap.size with l | l
  ·exact l
  ·rw [Array.getElem?_eq_none l] at h; cases h
theorem qg {w w' : World} {base : Nat} {T : TypeId} {v : Value} {n : Nat} {xs : List Value} (h : w.ownsRow base T 1 v n xs) (hb : Below w.heap.size w w') : w'.ownsRow base T 1 v n xs :=
 h.kept (row := none) ⟨hb.os, hb.tape, hb.output, hb.size, fun k hk _ => hb.block k hk⟩ (by cases v.ownBlock <;> simp)
theorem xK {w : World} {base : Nat} {T : TypeId} {v : Value} {n : Nat} {xs : List Value} (h : w.ownsRow base T 1 v n xs) : xs.length = n /\ ((v = .slice none 0 0 /\ n = 0) \/ ∃ g c, v = .slice (some ⟨g, 0, none⟩) n c /\ base <= g /\ g < w.heap.size /\ n <= c /\ c <= maxLen) := by
 refine ⟨by simpa using h.1, ?_⟩
 rcases h.2 with a | ⟨g, cap, cur, e, b, hg, n1, n2, _⟩
 ·exact Or.inl a
 ·exact Or.inr ⟨g, cap, e, b, Sees.of_own.block_lt_of_row hg, n1, n2⟩
end
section
open Go.RowKit Go.Sort
set_option maxHeartbeats 4000000 in
set_option maxRecDepth 100000 in
theorem d_at (t : ByteArray) (b i : Nat) (hi : i < t.size) (w : World) (hc : w.cell? ⟨b, 0, none⟩ = some (.string t)) :
  Calls Tryz.prog 135 #[.int .i64 (i : Int), .pointer (some ⟨b, 0, none⟩)] w fun e w' => e = .returned (.int .u8 (byt t i)) /\ w' = w := by
 have ix : ∀ W, (Instr.index 9 (.string t) (.int .i64 (i : Int))).run Tryz.prog W = .ok (.int .u8 (byt t i : Int)) W := fun W => by
  rw [run_index_string _ _ _ _ _ Tryz.underlying9, dif_pos (by omega)]
  unfold byt
  rw [get_at t i hi]
  rfl
 generalize byt t i = y at *
 go_enter Tryz.func135, Tryz.ntmps135
 go_wp2_with fail
 go_ret
 exact ⟨rfl, rfl⟩
set_option maxHeartbeats 4000000 in
set_option maxRecDepth 100000 in
theorem d_lead (b : Nat) (hb : b < 256) (w : World) :
  Calls Tryz.prog 143 #[.int .u8 (b : Int)] w fun e w' => e = .returned (.tuple #[.int .i64 ((zr b).1 : Int), .int .u8 ((zr b).2.1 : Int), .int .u8 ((zr b).2.2 : Int)]) /\ w' = w := by
 have H : b < 128 \/ (128 <= b /\ b < 194) \/ (194 <= b /\ b < 224) \/ b = 224 \/ b = 237 \/ (225 <= b /\ b < 240 /\ b ≠ 237) \/ b = 240 \/ (241 <= b /\ b < 244) \/ b = 244 \/ 245 <= b := by omega
 rcases H with h | ⟨h1, h2⟩ | ⟨h1, h2⟩ | h | h | ⟨h1, h2, h3⟩ | h | ⟨h1, h2⟩ | h | h
 ·have L : zr b = (1, 0, 0) := by unfold zr; rw [if_pos h]
  rw [L]
  go_enter Tryz.func143, Tryz.ntmps143
  go_wp2_with fail
  exact bodyPost_ret (v := .tuple #[.int .i64 1, .int .u8 0, .int .u8 0]) (by simp [results, Tryz.results143, go_sem]) rfl ⟨rfl, rfl⟩
 ·have L : zr b = (0, 0, 0) := by unfold zr; rw [if_neg (by omega), if_pos h2]
  rw [L]
  go_enter Tryz.func143, Tryz.ntmps143
  go_wp2_with fail
  exact bodyPost_ret (v := .tuple #[.int .i64 0, .int .u8 0, .int .u8 0]) (by simp [results, Tryz.results143, go_sem]) rfl ⟨rfl, rfl⟩
 ·have L : zr b = (2, 128, 191) := by unfold zr; rw [if_neg (by omega), if_neg (by omega), if_pos h2]
  rw [L]
  have q224 : ((b : Int) == 224) = false := by simp; omega
  have q237 : ((b : Int) == 237) = false := by simp; omega
  have q240 : ((b : Int) == 240) = false := by simp; omega
  have q244 : ((b : Int) == 244) = false := by simp; omega
  go_enter Tryz.func143, Tryz.ntmps143
  go_wp2_with fail
  exact bodyPost_ret (v := .tuple #[.int .i64 2, .int .u8 128, .int .u8 191]) (by simp [results, Tryz.results143, go_sem]) rfl ⟨rfl, rfl⟩
 ·have L : zr b = (3, 160, 191) := by unfold zr; rw [if_neg (by omega), if_neg (by omega), if_neg (by omega), if_pos h]
  rw [L]
  subst h
  go_enter Tryz.func143, Tryz.ntmps143
  go_wp2_with fail
  exact bodyPost_ret (v := .tuple #[.int .i64 3, .int .u8 160, .int .u8 191]) (by simp [results, Tryz.results143, go_sem]) rfl ⟨rfl, rfl⟩
 ·have L : zr b = (3, 128, 159) := by unfold zr; rw [if_neg (by omega), if_neg (by omega), if_neg (by omega), if_neg (by omega), if_pos h]
  rw [L]
  subst h
  go_enter Tryz.func143, Tryz.ntmps143
  go_wp2_with fail
  exact bodyPost_ret (v := .tuple #[.int .i64 3, .int .u8 128, .int .u8 159]) (by simp [results, Tryz.results143, go_sem]) rfl ⟨rfl, rfl⟩
 ·have L : zr b = (3, 128, 191) := by unfold zr; rw [if_neg (by omega), if_neg (by omega), if_neg (by omega), if_neg (by omega), if_neg (by omega), if_pos h2]
  rw [L]
  have q1 : ((b : Int) == 237) = false := by simp; omega
  have q2 : ((b : Int) == 224) = false := by simp; omega
  go_enter Tryz.func143, Tryz.ntmps143
  go_wp2_with fail
  exact bodyPost_ret (v := .tuple #[.int .i64 3, .int .u8 128, .int .u8 191]) (by simp [results, Tryz.results143, go_sem]) rfl ⟨rfl, rfl⟩
 ·have L : zr b = (4, 144, 191) := by unfold zr; rw [if_neg (by omega), if_neg (by omega), if_neg (by omega), if_neg (by omega), if_neg (by omega), if_neg (by omega), if_pos h]
  rw [L]
  subst h
  go_enter Tryz.func143, Tryz.ntmps143
  go_wp2_with fail
  exact bodyPost_ret (v := .tuple #[.int .i64 4, .int .u8 144, .int .u8 191]) (by simp [results, Tryz.results143, go_sem]) rfl ⟨rfl, rfl⟩
 ·have L : zr b = (4, 128, 191) := by unfold zr; rw [if_neg (by omega), if_neg (by omega), if_neg (by omega), if_neg (by omega), if_neg (by omega), if_neg (by omega), if_neg (by omega), if_pos h2]
  rw [L]
  have q224 : ((b : Int) == 224) = false := by simp; omega
  have q237 : ((b : Int) == 237) = false := by simp; omega
  have q240 : ((b : Int) == 240) = false := by simp; omega
  have q244 : ((b : Int) == 244) = false := by simp; omega
  go_enter Tryz.func143, Tryz.ntmps143
  go_wp2_with fail
  exact bodyPost_ret (v := .tuple #[.int .i64 4, .int .u8 128, .int .u8 191]) (by simp [results, Tryz.results143, go_sem]) rfl ⟨rfl, rfl⟩
 ·have L : zr b = (4, 128, 143) := by unfold zr; rw [if_neg (by omega), if_neg (by omega), if_neg (by omega), if_neg (by omega), if_neg (by omega), if_neg (by omega), if_neg (by omega), if_neg (by omega), if_pos h]
  rw [L]
  subst h
  go_enter Tryz.func143, Tryz.ntmps143
  go_wp2_with fail
  exact bodyPost_ret (v := .tuple #[.int .i64 4, .int .u8 128, .int .u8 143]) (by simp [results, Tryz.results143, go_sem]) rfl ⟨rfl, rfl⟩
 ·have L : zr b = (0, 0, 0) := by unfold zr; rw [if_neg (by omega), if_neg (by omega), if_neg (by omega), if_neg (by omega), if_neg (by omega), if_neg (by omega), if_neg (by omega), if_neg (by omega), if_neg (by omega)]
  rw [L]
  have q224 : ((b : Int) == 224) = false := by simp; omega
  have q237 : ((b : Int) == 237) = false := by simp; omega
  have q240 : ((b : Int) == 240) = false := by simp; omega
  have q244 : ((b : Int) == 244) = false := by simp; omega
  go_enter Tryz.func143, Tryz.ntmps143
  go_wp2_with fail
  exact bodyPost_ret (v := .tuple #[.int .i64 0, .int .u8 0, .int .u8 0]) (by simp [results, Tryz.results143, go_sem]) rfl ⟨rfl, rfl⟩
theorem vn (y j : Nat) (hy : y < 256) (hj : j <= 8) : bits .and .i32 (y : Int) ((2 : Int) ^ j - 1) = ((y % 2 ^ j : Nat) : Int) := by
 have e : (2 : Int) ^ 31 = 2147483648 := by decide
 rw [bits_mask .i32 31 (by decide) wraps_i32 j (by omega) y (by omega) (by rw [e]; omega)]
 simp
theorem vo (c : Nat) (hc : c < 256) : bits .and .u8 (c : Int) 63 = ((c % 64 : Nat) : Int) := by
 rw [u8_and63 _ (by omega) (by omega)]
 simp
theorem vp (r c : Nat) (hr : r < 2097152) : bits .or .i32 ((r * 64 : Nat) : Int) ((c % 64 : Nat) : Int) = ((r * 64 + c % 64 : Nat) : Int) := by
 rw [i32_or6 _ _ (by omega) (by omega) (by omega) (by omega) (by omega)]
 omega
set_option maxHeartbeats 8000000 in
set_option maxRecDepth 100000 in
theorem d_first (t : ByteArray) (ht : 0 < t.size) (hs : t.size <= 281474976710656) (b : Nat) (w : World) (hc : w.cell? ⟨b, 0, none⟩ = some (.string t)) :
  Calls Tryz.prog 134 #[.func (.func 135) #[] #[.pointer (some ⟨b, 0, none⟩)], .int .i64 (t.size : Int)] w fun e w' => (∃ u : Bool, e = .returned (.tuple #[.int .i32 ((decB t).1 : Int), .int .i64 ((decB t).2 : Int), .bool u])) /\ w' = w := by
 have DB : Hid (decB t = if (zr (byt t 0)).1 = 0 then (65533, 1) else if (zr (byt t 0)).1 = 1 then (byt t 0, 1)
  else goN t (zr (byt t 0)).1 ((zr (byt t 0)).1 - 1) (zr (byt t 0)).2.1 (zr (byt t 0)).2.2 (byt t 0 % 2 ^ (7 - (zr (byt t 0)).1)) 1) := Vd rfl
 have AT := Vd (fun i hi => d_at t b i hi w hc)
 have HS := Vd hs
 have A0 := Vd (AT.out 0 ht)
 have b0 := jh t 0
 have LD := Vd (d_lead (byt t 0) b0 w)
 have l4 := Zh (byt t 0)
 generalize decB t = D at *
 have m31 : bits .and .i32 (byt t 0 : Int) 31 = ((byt t 0 % 32 : Nat) : Int) := vn _ 5 b0 (by decide)
 have m15 : bits .and .i32 (byt t 0 : Int) 15 = ((byt t 0 % 16 : Nat) : Int) := vn _ 4 b0 (by decide)
 have m7 : bits .and .i32 (byt t 0 : Int) 7 = ((byt t 0 % 8 : Nat) : Int) := vn _ 3 b0 (by decide)
 generalize byt t 0 = y0 at *
 generalize zr y0 = L at *
 obtain ⟨n, lo, hi⟩ := L
 obtain ⟨sz, hsz⟩ : ∃ sz, sz = t.size := ⟨_, rfl⟩
 have HZ := Vd hsz
 rw [<- hsz] at ht hs AT ⊢
 clear hsz hs hc
 simp only at l4 DB LD
 go_enter Tryz.func134, Tryz.ntmps134
 go_wp2_with fail
 refine A0.out.mono ?_; rintro e w' ⟨rfl, rfl⟩
 go_wp2_with fail
 refine LD.out.mono ?_; rintro e w' ⟨rfl, rfl⟩
 have N : n = 0 \/ n = 1 \/ n = 2 \/ n = 3 \/ n = 4 := by omega
 rcases N with rfl | rfl | rfl | rfl | rfl
 ·have R : Hid (D = (65533, 1)) := Vd (by rw [DB.out, if_pos rfl])
  go_wp2_with fail
  exact bodyPost_ret (v := .tuple #[.int .i32 65533, .int .i64 1, .bool false]) (by simp [results, Tryz.results134, go_sem]) rfl ⟨⟨false, by rw [R.out]; rfl⟩, rfl⟩
 ·have R : Hid (D = (y0, 1)) := Vd (by rw [DB.out, if_neg (by decide), if_pos rfl])
  go_wp2_with fail
  exact bodyPost_ret (v := .tuple #[.int .i32 y0, .int .i64 1, .bool false]) (by simp [results, Tryz.results134, go_sem]) rfl ⟨⟨false, by rw [R.out]; rfl⟩, rfl⟩
 ·have R : Hid (D = goN t 2 1 lo hi (y0 % 32) 1) := Vd (by rw [DB.out, if_neg (by decide), if_neg (by decide)])
  go_wp2_with fail
  go_loopw [9, 10, 11, 12, 13] (fun s9 s10 s11 s12 s13 wr => ∃ i lo' hi' r : Nat, 1 <= i /\ i <= 2 /\ i <= sz /\ s9 = .int .u8 (lo' : Int) /\ s10 = .int .u8 (hi' : Int) /\ s11 = .int .i32 (r : Int) /\ s12 = .int .i64 (i : Int) /\ wr = w' /\ Hid (r < 2 ^ (21 - 6 * (2 - i)) /\ goN t 2 (2 - i) lo' hi' r i = D)) (fun _ _ _ s12 _ _ => 2 - (intOf s12).toNat)
  case atStart => exact ⟨1, lo, hi, y0 % 32, by decide, by decide, by omega, rfl, rfl, by simp, rfl, rfl, Vd ⟨by have := Nat.mod_lt y0 (show 0 < 32 by decide); simp; omega, by rw [R.out]⟩⟩
  case round =>
   obtain ⟨i, lo', hi', r, h1, h2, h3, rfl, rfl, rfl, rfl, rfl, hG⟩ := hrel
   by_cases lt : i < 2
   ·have FU : 2 - i = (2 - (i + 1)) + 1 := by omega
    by_cases e : i = sz
    ·subst e
     have R2 : Hid (D = (65533, i)) := Vd (by rw [<- hG.out.2, FU]; exact xA _ _ _ _ _ _ _ HZ.out)
     clear FU
     go_wp2_with fail
     exact bodyPost_ret (v := .tuple #[.int .i32 65533, .int .i64 (i : Int), .bool true]) (by simp [results, Tryz.results134, go_sem]) rfl ⟨⟨true, by rw [R2.out]; rfl⟩, rfl⟩
    ·have lz : i < sz := by omega
     have ne : ((i : Int) == (sz : Int)) = false := by simp; omega
     have A1 := Vd (AT.out i lz)
     have cl := jh t i
     have nz : ¬ i = t.size := by rw [<- HZ.out]; exact e
     have BAD : Hid (byt t i < lo' \/ hi' < byt t i -> D = (65533, i)) := Vd fun hb => by rw [<- hG.out.2, FU]; exact xB _ _ _ _ _ _ _ nz hb
     have GOOD : Hid (¬ (byt t i < lo' \/ hi' < byt t i) -> goN t 2 (2 - (i + 1)) 128 191 (r * 64 + byt t i % 64) (i + 1) = D) := Vd fun hb => by rw [<- hG.out.2, FU]; exact (xC _ _ _ _ _ _ _ nz hb).symm
     clear FU nz
     generalize byt t i = c at *
     by_cases c1 : c < lo'
     ·have R2 : Hid (D = (65533, i)) := Vd (BAD.out (Or.inl c1))
      go_wp2_with fail
      refine A1.out.mono ?_; rintro e' w' ⟨rfl, rfl⟩
      go_wp2_with fail
      exact bodyPost_ret (v := .tuple #[.int .i32 65533, .int .i64 (i : Int), .bool false]) (by simp [results, Tryz.results134, go_sem]) rfl ⟨⟨false, by rw [R2.out]; rfl⟩, rfl⟩
     ·by_cases c2 : hi' < c
      ·have R2 : Hid (D = (65533, i)) := Vd (BAD.out (Or.inr c2))
       go_wp2_with fail
       refine A1.out.mono ?_; rintro e' w' ⟨rfl, rfl⟩
       go_wp2_with fail
       exact bodyPost_ret (v := .tuple #[.int .i32 65533, .int .i64 (i : Int), .bool false]) (by simp [results, Tryz.results134, go_sem]) rfl ⟨⟨false, by rw [R2.out]; rfl⟩, rfl⟩
      ·have GO := Vd (GOOD.out (fun h => h.elim c1 c2))
       have rb : r < 32768 := by
        have := hG.out.1
        have q : 2 - i = 1 \/ 2 - i = 2 \/ 2 - i = 3 := by omega
        rcases q with q | q | q <;> rw [q] at this <;> simp at this <;> omega
       have rb2 : Hid (r * 64 + c % 64 < 2 ^ (21 - 6 * (2 - (i + 1)))) := Vd (by
        have := hG.out.1
        have q : 2 - i = 1 \/ 2 - i = 2 \/ 2 - i = 3 := by omega
        rcases q with q | q | q <;> rw [q] at this <;> (rw [show 2 - (i + 1) = 2 - i - 1 by omega, q]) <;> simp at this ⊢ <;> omega)
       have f1 := vo c cl
       have f2 := vp r c (by omega)
       have f3 : IntKind.i32.wrap ((r : Int) * 64) = ((r * 64 : Nat) : Int) := by rw [IntKind.wrap_i32]; omega
       clear BAD GOOD hG
       go_wp2_with fail
       refine A1.out.mono ?_; rintro e' w' ⟨rfl, rfl⟩
       go_wp2_with fail
       go_roundw
       case rel => exact ⟨i + 1, 128, 191, r * 64 + c % 64, by omega, by omega, by omega, rfl, rfl, by go_num, by go_num, trivial, Vd ⟨rb2.out, GO.out⟩⟩
       case measure => simp [intOf]; omega
   ·have ei : i = 2 := by omega
    subst ei
    have R2 : Hid (D = (r, 2)) := Vd (by rw [<- hG.out.2, Nat.sub_self]; rfl)
    go_wp2_with fail
    exact bodyPost_ret (v := .tuple #[.int .i32 (r : Int), .int .i64 2, .bool false]) (by simp [results, Tryz.results134, go_sem]) rfl ⟨⟨false, by rw [R2.out]; rfl⟩, rfl⟩
 ·have R : Hid (D = goN t 3 2 lo hi (y0 % 16) 1) := Vd (by rw [DB.out, if_neg (by decide), if_neg (by decide)])
  go_wp2_with fail
  go_loopw [9, 10, 11, 12, 13] (fun s9 s10 s11 s12 s13 wr => ∃ i lo' hi' r : Nat, 1 <= i /\ i <= 3 /\ i <= sz /\ s9 = .int .u8 (lo' : Int) /\ s10 = .int .u8 (hi' : Int) /\ s11 = .int .i32 (r : Int) /\ s12 = .int .i64 (i : Int) /\ wr = w' /\ Hid (r < 2 ^ (21 - 6 * (3 - i)) /\ goN t 3 (3 - i) lo' hi' r i = D)) (fun _ _ _ s12 _ _ => 3 - (intOf s12).toNat)
  case atStart => exact ⟨1, lo, hi, y0 % 16, by decide, by decide, by omega, rfl, rfl, by simp, rfl, rfl, Vd ⟨by have := Nat.mod_lt y0 (show 0 < 16 by decide); simp; omega, by rw [R.out]⟩⟩
  case round =>
   obtain ⟨i, lo', hi', r, h1, h2, h3, rfl, rfl, rfl, rfl, rfl, hG⟩ := hrel
   by_cases lt : i < 3
   ·have FU : 3 - i = (3 - (i + 1)) + 1 := by omega
    by_cases e : i = sz
    ·subst e
     have R2 : Hid (D = (65533, i)) := Vd (by rw [<- hG.out.2, FU]; exact xA _ _ _ _ _ _ _ HZ.out)
     clear FU
     go_wp2_with fail
     exact bodyPost_ret (v := .tuple #[.int .i32 65533, .int .i64 (i : Int), .bool true]) (by simp [results, Tryz.results134, go_sem]) rfl ⟨⟨true, by rw [R2.out]; rfl⟩, rfl⟩
    ·have lz : i < sz := by omega
     have ne : ((i : Int) == (sz : Int)) = false := by simp; omega
     have A1 := Vd (AT.out i lz)
     have cl := jh t i
     have nz : ¬ i = t.size := by rw [<- HZ.out]; exact e
     have BAD : Hid (byt t i < lo' \/ hi' < byt t i -> D = (65533, i)) := Vd fun hb => by rw [<- hG.out.2, FU]; exact xB _ _ _ _ _ _ _ nz hb
     have GOOD : Hid (¬ (byt t i < lo' \/ hi' < byt t i) -> goN t 3 (3 - (i + 1)) 128 191 (r * 64 + byt t i % 64) (i + 1) = D) := Vd fun hb => by rw [<- hG.out.2, FU]; exact (xC _ _ _ _ _ _ _ nz hb).symm
     clear FU nz
     generalize byt t i = c at *
     by_cases c1 : c < lo'
     ·have R2 : Hid (D = (65533, i)) := Vd (BAD.out (Or.inl c1))
      go_wp2_with fail
      refine A1.out.mono ?_; rintro e' w' ⟨rfl, rfl⟩
      go_wp2_with fail
      exact bodyPost_ret (v := .tuple #[.int .i32 65533, .int .i64 (i : Int), .bool false]) (by simp [results, Tryz.results134, go_sem]) rfl ⟨⟨false, by rw [R2.out]; rfl⟩, rfl⟩
     ·by_cases c2 : hi' < c
      ·have R2 : Hid (D = (65533, i)) := Vd (BAD.out (Or.inr c2))
       go_wp2_with fail
       refine A1.out.mono ?_; rintro e' w' ⟨rfl, rfl⟩
       go_wp2_with fail
       exact bodyPost_ret (v := .tuple #[.int .i32 65533, .int .i64 (i : Int), .bool false]) (by simp [results, Tryz.results134, go_sem]) rfl ⟨⟨false, by rw [R2.out]; rfl⟩, rfl⟩
      ·have GO := Vd (GOOD.out (fun h => h.elim c1 c2))
       have rb : r < 32768 := by
        have := hG.out.1
        have q : 3 - i = 1 \/ 3 - i = 2 \/ 3 - i = 3 := by omega
        rcases q with q | q | q <;> rw [q] at this <;> simp at this <;> omega
       have rb2 : Hid (r * 64 + c % 64 < 2 ^ (21 - 6 * (3 - (i + 1)))) := Vd (by
        have := hG.out.1
        have q : 3 - i = 1 \/ 3 - i = 2 \/ 3 - i = 3 := by omega
        rcases q with q | q | q <;> rw [q] at this <;> (rw [show 3 - (i + 1) = 3 - i - 1 by omega, q]) <;> simp at this ⊢ <;> omega)
       have f1 := vo c cl
       have f2 := vp r c (by omega)
       have f3 : IntKind.i32.wrap ((r : Int) * 64) = ((r * 64 : Nat) : Int) := by rw [IntKind.wrap_i32]; omega
       clear BAD GOOD hG
       go_wp2_with fail
       refine A1.out.mono ?_; rintro e' w' ⟨rfl, rfl⟩
       go_wp2_with fail
       go_roundw
       case rel => exact ⟨i + 1, 128, 191, r * 64 + c % 64, by omega, by omega, by omega, rfl, rfl, by go_num, by go_num, trivial, Vd ⟨rb2.out, GO.out⟩⟩
       case measure => simp [intOf]; omega
   ·have ei : i = 3 := by omega
    subst ei
    have R2 : Hid (D = (r, 3)) := Vd (by rw [<- hG.out.2, Nat.sub_self]; rfl)
    go_wp2_with fail
    exact bodyPost_ret (v := .tuple #[.int .i32 (r : Int), .int .i64 3, .bool false]) (by simp [results, Tryz.results134, go_sem]) rfl ⟨⟨false, by rw [R2.out]; rfl⟩, rfl⟩
 ·have R : Hid (D = goN t 4 3 lo hi (y0 % 8) 1) := Vd (by rw [DB.out, if_neg (by decide), if_neg (by decide)])
  go_wp2_with fail
  go_loopw [9, 10, 11, 12, 13] (fun s9 s10 s11 s12 s13 wr => ∃ i lo' hi' r : Nat, 1 <= i /\ i <= 4 /\ i <= sz /\ s9 = .int .u8 (lo' : Int) /\ s10 = .int .u8 (hi' : Int) /\ s11 = .int .i32 (r : Int) /\ s12 = .int .i64 (i : Int) /\ wr = w' /\ Hid (r < 2 ^ (21 - 6 * (4 - i)) /\ goN t 4 (4 - i) lo' hi' r i = D)) (fun _ _ _ s12 _ _ => 4 - (intOf s12).toNat)
  case atStart => exact ⟨1, lo, hi, y0 % 8, by decide, by decide, by omega, rfl, rfl, by simp, rfl, rfl, Vd ⟨by have := Nat.mod_lt y0 (show 0 < 8 by decide); simp; omega, by rw [R.out]⟩⟩
  case round =>
   obtain ⟨i, lo', hi', r, h1, h2, h3, rfl, rfl, rfl, rfl, rfl, hG⟩ := hrel
   by_cases lt : i < 4
   ·have FU : 4 - i = (4 - (i + 1)) + 1 := by omega
    by_cases e : i = sz
    ·subst e
     have R2 : Hid (D = (65533, i)) := Vd (by rw [<- hG.out.2, FU]; exact xA _ _ _ _ _ _ _ HZ.out)
     clear FU
     go_wp2_with fail
     exact bodyPost_ret (v := .tuple #[.int .i32 65533, .int .i64 (i : Int), .bool true]) (by simp [results, Tryz.results134, go_sem]) rfl ⟨⟨true, by rw [R2.out]; rfl⟩, rfl⟩
    ·have lz : i < sz := by omega
     have ne : ((i : Int) == (sz : Int)) = false := by simp; omega
     have A1 := Vd (AT.out i lz)
     have cl := jh t i
     have nz : ¬ i = t.size := by rw [<- HZ.out]; exact e
     have BAD : Hid (byt t i < lo' \/ hi' < byt t i -> D = (65533, i)) := Vd fun hb => by rw [<- hG.out.2, FU]; exact xB _ _ _ _ _ _ _ nz hb
     have GOOD : Hid (¬ (byt t i < lo' \/ hi' < byt t i) -> goN t 4 (4 - (i + 1)) 128 191 (r * 64 + byt t i % 64) (i + 1) = D) := Vd fun hb => by rw [<- hG.out.2, FU]; exact (xC _ _ _ _ _ _ _ nz hb).symm
     clear FU nz
     generalize byt t i = c at *
     by_cases c1 : c < lo'
     ·have R2 : Hid (D = (65533, i)) := Vd (BAD.out (Or.inl c1))
      go_wp2_with fail
      refine A1.out.mono ?_; rintro e' w' ⟨rfl, rfl⟩
      go_wp2_with fail
      exact bodyPost_ret (v := .tuple #[.int .i32 65533, .int .i64 (i : Int), .bool false]) (by simp [results, Tryz.results134, go_sem]) rfl ⟨⟨false, by rw [R2.out]; rfl⟩, rfl⟩
     ·by_cases c2 : hi' < c
      ·have R2 : Hid (D = (65533, i)) := Vd (BAD.out (Or.inr c2))
       go_wp2_with fail
       refine A1.out.mono ?_; rintro e' w' ⟨rfl, rfl⟩
       go_wp2_with fail
       exact bodyPost_ret (v := .tuple #[.int .i32 65533, .int .i64 (i : Int), .bool false]) (by simp [results, Tryz.results134, go_sem]) rfl ⟨⟨false, by rw [R2.out]; rfl⟩, rfl⟩
      ·have GO := Vd (GOOD.out (fun h => h.elim c1 c2))
       have rb : r < 32768 := by
        have := hG.out.1
        have q : 4 - i = 1 \/ 4 - i = 2 \/ 4 - i = 3 := by omega
        rcases q with q | q | q <;> rw [q] at this <;> simp at this <;> omega
       have rb2 : Hid (r * 64 + c % 64 < 2 ^ (21 - 6 * (4 - (i + 1)))) := Vd (by
        have := hG.out.1
        have q : 4 - i = 1 \/ 4 - i = 2 \/ 4 - i = 3 := by omega
        rcases q with q | q | q <;> rw [q] at this <;> (rw [show 4 - (i + 1) = 4 - i - 1 by omega, q]) <;> simp at this ⊢ <;> omega)
       have f1 := vo c cl
       have f2 := vp r c (by omega)
       have f3 : IntKind.i32.wrap ((r : Int) * 64) = ((r * 64 : Nat) : Int) := by rw [IntKind.wrap_i32]; omega
       clear BAD GOOD hG
       go_wp2_with fail
       refine A1.out.mono ?_; rintro e' w' ⟨rfl, rfl⟩
       go_wp2_with fail
       go_roundw
       case rel => exact ⟨i + 1, 128, 191, r * 64 + c % 64, by omega, by omega, by omega, rfl, rfl, by go_num, by go_num, trivial, Vd ⟨rb2.out, GO.out⟩⟩
       case measure => simp [intOf]; omega
   ·have ei : i = 4 := by omega
    subst ei
    have R2 : Hid (D = (r, 4)) := Vd (by rw [<- hG.out.2, Nat.sub_self]; rfl)
    go_wp2_with fail
    exact bodyPost_ret (v := .tuple #[.int .i32 (r : Int), .int .i64 4, .bool false]) (by simp [results, Tryz.results134, go_sem]) rfl ⟨⟨false, by rw [R2.out]; rfl⟩, rfl⟩
set_option maxHeartbeats 4000000 in
set_option maxRecDepth 100000 in
theorem d_Decode (t : ByteArray) (ht : 0 < t.size) (hs : t.size <= 281474976710656) (w : World) :
  Calls Tryz.prog 116 #[.string t] w fun e w' => e = .returned (.tuple #[.int .i32 ((decB t).1 : Int), .int .i64 ((decB t).2 : Int)]) /\ Below w.heap.size w w' := by
 have hmf : ∀ (fn : Fn) (first cap : Array Value) (w : World), (Instr.makeFunc fn first cap).run Tryz.prog w = .ok (.func fn first cap) w := fun _ _ _ _ => rfl
 have b1 : (t.toList == []) = false := by
  rw [Zl]
  refine decide_eq_false fun e => ?_
  rw [e] at ht
  exact absurd ht (by decide)
 have FI := Vd (d_first t ht hs w.heap.size (w.alloc (.cells #[.string t] 9)) (by simp [go_sem]))
 generalize decB t = D at *
 go_enter Tryz.func116, Tryz.ntmps116
 go_wp2_with fail
 refine FI.out.mono ?_; rintro e w' ⟨⟨u, rfl⟩, rfl⟩
 go_wp2_with fail
 exact bodyPost_ret (v := .tuple #[.int .i32 (D.1 : Int), .int .i64 (D.2 : Int)]) (by simp [results, Tryz.results116, go_sem]) rfl ⟨rfl, by go_grown⟩
end
section
open Go.RowKit Go.Sort
def rns (l : List Int) : List Value := l.map (Value.int .i32)
theorem Z8 (a b : List Int) : rns (a ++ b) = rns a ++ rns b := by simp [rns]
theorem Z9 (l : List Int) : ∀ u ∈ rns l, u.oneCell' = true := fun u hu => by
 obtain ⟨y, _, rfl⟩ := List.mem_map.1 hu
 rfl
theorem infoR : (Tryz.prog.info? 21).map (fun i => (i.zero, i.size, i.bytes)) = some (some (.int .i32 0), 1, 4) := by kernel_rfl
theorem qL (w : World) (xs : List Value) (T : TypeId) : ∀ j u, xs[j]? = some u -> (w.alloc (.cells xs.toArray T)).cell? ((⟨w.heap.size, 0, none⟩ : Addr).add j) = some u := fun j u h => by
 rw [show (⟨w.heap.size, 0, none⟩ : Addr).add j = ⟨w.heap.size, j, none⟩ by simp [Addr.add]; intro h; exact h.symm]
 exact (qw w xs T j u h).1
theorem ext_ext (s : ByteArray) (a d : Nat) (h : a <= s.size) : (s.extract a s.size).extract d (s.extract a s.size).size = s.extract (a + d) s.size := by
 have z : (s.extract a s.size).size = s.size - a := by rw [ByteArray.size_extract]; omega
 rw [z, ByteArray.extract_extract, show min (a + (s.size - a)) s.size = s.size by omega]
theorem Xk (s : ByteArray) (k : Nat) (acc : List Int) (hk : k < s.size) (h : acc ++ zt (s.extract k s.size) = zt s) :
  acc ++ [((decB (s.extract k s.size)).1 : Int)] ++ zt (s.extract (k + (decB (s.extract k s.size)).2) s.size) = zt s := by
 have z : (s.extract k s.size).size = s.size - k := by rw [ByteArray.size_extract]; omega
 rw [x6 _ (by omega), ext_ext s k _ (by omega)] at h
 rw [<- h, List.append_assoc, List.singleton_append]
set_option maxHeartbeats 8000000 in
set_option maxRecDepth 100000 in
theorem d_Runes (s : ByteArray) (hs : s.size <= 35184372000000) (w : World) : Calls Tryz.prog 100 #[.string s] w fun e w' => ∃ v, e = .returned v /\ w'.ownsRow w.heap.size 21 1 v (zt s).length (rns (zt s)) /\ Below w.heap.size w w' := by
 obtain ⟨n, hn⟩ : ∃ n, n = s.size := ⟨_, rfl⟩
 have HN := Vd hn
 have XL := Vd (x7 _ s rfl)
 have XS := Vd (Xk s)
 have XD := Vd (fun k (hk : k < s.size) => d_Decode (s.extract k s.size) (by rw [ByteArray.size_extract]; omega) (by rw [ByteArray.size_extract]; omega))
 have XB := Vd (fun k (hk : k < s.size) => j8 (s.extract k s.size) (by rw [ByteArray.size_extract]; omega))
 have XZ : Hid (∀ k, k < s.size -> (s.extract k s.size).size = s.size - k) := Vd (fun k hk => by rw [ByteArray.size_extract]; omega)
 have XE : Hid (∀ acc, acc ++ zt (s.extract s.size s.size) = zt s -> acc = zt s) := Vd (fun acc h => by rw [x5 _ (by rw [ByteArray.size_extract]; omega), List.append_nil] at h; exact h)
 rw [<- hn] at hs XL XS XD XB XZ XE
 clear hn
 obtain ⟨i0, hi0, hz0, hz1, hz2⟩ := info_parts infoR
 obtain ⟨LO, hLO⟩ : ∃ LO, LO = w.heap.size := ⟨_, rfl⟩
 have HLO := Vd hLO
 have STEP : Hid (∀ (wr : World) (v : Value) (ws L : List Int), wr.ownsRow LO 21 1 v ws.length (rns ws) -> Below LO w wr -> ∀ (v' : Value) (w3 : World), w3.ownsRow LO 21 1 v' (ws.length + L.length) (rns ws ++ rns L) -> (wr.alloc (.cells (rns L).toArray 21)).grownBy w3 v.ownBlock -> w3.ownsRow LO 21 1 v' (ws ++ L).length (rns (ws ++ L)) /\ Below LO w w3) := Vd (fun wr v ws L ho hb v' w3 h1 h2 =>
  ⟨by rw [List.length_append, Z8]; exact h1, (hb.alloc (by rw [hLO]; exact hb.size) _).grown h2 (by have := hb.size; simp; omega) (fun g hg => (ho.lt g hg).1)⟩)
 have O0 : Hid (w.ownsRow LO 21 1 (.slice none 0 0) 0 (rns []) /\ Below LO w w) := Vd ⟨World.ownsRow_nil _ _ _ _, Below.refl _ _⟩
 rw [<- hLO]
 clear hLO
 have hsz : (s.size : Int) = (n : Int) := by rw [HN.out]
 go_enter Tryz.func100, Tryz.ntmps100
 go_wp2_with fail
 go_loopw [3, 4, 5, 6] (fun s3 s4 s5 s6 wr => ∃ (k : Nat) (acc : List Int), k <= n /\ s4 = .int .i64 k /\ Hid (acc ++ zt (s.extract k n) = zt s) /\ Hid (wr.ownsRow LO 21 1 s3 acc.length (rns acc) /\ Below LO w wr)) (fun _ s4 _ _ _ => n - (intOf s4).toNat)
 case atStart => exact ⟨0, [], by omega, rfl, Vd (by rw [HN.out]; simp), O0⟩
 case round =>
  obtain ⟨k, acc, hk, rfl, hx, ho⟩ := hrel
  by_cases lt : k < n
  ·have slr : ∀ W, (Instr.slice 9 (.string s) (some (.int .i64 (k : Int))) none none).run Tryz.prog W = .ok (.string (s.extract k n)) W := fun W => by
    rw [run_slice_string_from_if _ _ _ _ _ Tryz.underlying9, if_pos (by omega)]
    rw [HN.out]
    rfl
   have NX := Vd (XS.out k acc lt hx.out)
   have DD := Vd (XD.out k lt)
   have bb := XB.out k lt
   have zz := XZ.out k lt
   have LL : acc.length + 1 <= n := by
    have h1 := congrArg List.length NX.out
    simp at h1
    have := XL.out
    omega
   clear hx
   generalize s.extract k n = x at *
   rw [zz] at bb
   obtain ⟨⟨r, d⟩, hD⟩ : ∃ D, D = decB x := ⟨_, rfl⟩
   rw [<- hD] at DD bb NX
   simp only at DD bb NX
   clear hD zz
   go_wp2_with fail
   refine (DD.out _).mono ?_; rintro e w1 ⟨rfl, hb1⟩
   have HO := Vd ((qg ho.out.1 hb1).alloc (.cells (rns [(r : Int)]).toArray 21))
   have HO1 := Vd (qg ho.out.1 hb1)
   have HB := Vd (ho.out.2.trans (hb1.mono (by rw [HLO.out]; exact ho.out.2.size)))
   have H2 : acc.length + 1 <= maxLen := by unfold maxLen; omega
   have H3 : (acc.length + 1) * 4 <= 140737488355328 := by omega
   have H4 : LO <= (w1.alloc (.cells (rns [(r : Int)]).toArray 21)).heap.size := by have := HB.out.size; rw [HLO.out]; simp; omega
   have NW := Vd (qL w1 (rns [(r : Int)]) 21)
   have O1 := Vd (Z9 [(r : Int)])
   have ST := Vd (fun v' w3 a b => STEP.out w1 _ acc [(r : Int)] HO1.out HB.out v' w3 a b)
   clear ho hb1
   go_wp2_with (at_builtin; refine wpList_append_own _ rfl (.tmp 18) (.tmp 20) 143 rfl LO 21 i0 (.int .i32 0) 1 4 Tryz.underlying143 hi0 hz0 hz1 hz2 rfl (by decide) _ _ _ rfl HO.out ⟨w1.heap.size, 0, none⟩ 1 1 (rns [(r : Int)]) rfl rfl NW.out O1.out H2 H3 H4 ?_; intro v' w3 hown3 hg3 _)
   have SS := Vd (ST.out v' w3 hown3 hg3)
   clear hown3 hg3
   go_wp2_with fail
   go_roundw
   case rel => exact ⟨k + d, _, by omega, by go_num, NX, SS⟩
   case measure => (simp [intOf] <;> omega)
  ·have ek : k = n := by omega
   subst ek
   have FE : Hid (acc = zt s) := Vd (XE.out acc hx.out)
   rw [FE.out] at ho
   clear hx
   go_wp2_with fail
   go_ret
   exact ⟨_, rfl, ho.out.1, ho.out.2⟩
end
section
open Go.RowKit Go.Sort
def bts (l : List Int) : List Value := l.map (Value.int .u8)
theorem Qa (a b : List Int) : bts (a ++ b) = bts a ++ bts b := by simp [bts]
theorem bts_one (l : List Int) : ∀ u ∈ bts l, u.oneCell' = true := fun u hu => by
 obtain ⟨y, _, rfl⟩ := List.mem_map.1 hu
 rfl
theorem infoB : (Tryz.prog.info? 5).map (fun i => (i.zero, i.size, i.bytes)) = some (some (.int .u8 0), 1, 1) := by kernel_rfl
theorem or_u8 (y k : Nat) (h : (k = 192 /\ y < 32) \/ (k = 224 /\ y < 16) \/ (k = 240 /\ y < 8)) : bits .or .u8 (y : Int) (k : Int) = ((k + y : Nat) : Int) := by
 rw [(bits_nat .u8 8 (by decide) wraps_u8 y k (by omega) (by omega)).2, Nat.or_comm]
 congr 1
 rcases h with ⟨rfl, h⟩ | ⟨rfl, h⟩ | ⟨rfl, h⟩
 ·exact (Nat.two_pow_add_eq_or_of_lt (i := 5) h 6).symm
 ·exact (Nat.two_pow_add_eq_or_of_lt (i := 4) h 14).symm
 ·exact (Nat.two_pow_add_eq_or_of_lt (i := 3) h 30).symm
theorem vq (c : Int) (h0 : 0 <= c) (h1 : c < 2147483648) : bits .and .i32 c 63 = c % 64 :=
  bits_mask .i32 31 (by decide) wraps_i32 6 (by decide) c h0 (by have e : (2 : Int) ^ 31 = 2147483648 := by decide
                                                                 rw [e]; exact h1)
def PutRet (LO : Nat) (w : World) (ys : List Int) (e : Ending) (w' : World) : Prop := ∃ v', e = .returned v' /\ w'.ownsRow LO 5 1 v' ys.length (bts ys) /\ Below LO w w'
set_option maxHeartbeats 8000000 in
set_option maxRecDepth 100000 in
theorem d_put (LO : Nat) (v : Value) (xs : List Int) (r : Int) (hr0 : -2147483648 <= r) (hr1 : r < 2147483648) (w : World) (hlo : LO <= w.heap.size) (hm : xs.length <= 140737488355000) (h : w.ownsRow LO 5 1 v xs.length (bts xs)) :
    Calls Tryz.prog 120 #[v, .int .i32 r] w (PutRet LO w (xs ++ qq r)) := by
  obtain ⟨i0, hi0, hz0, hz1, hz2⟩ := info_parts infoB
  have O1 := Vd (fun (W : World) (l : List Int) (o : Obj) (hb : Below LO w W) => show ∀ (v' : Value) (w3 : World), w3.ownsRow LO 5 1 v' (xs.length + l.length) (bts xs ++ bts l) -> (W.alloc o).grownBy w3 v.ownBlock -> PutRet LO w (xs ++ l) (.returned v') w3 from
    fun v' w3 a b => ⟨v', rfl, by rw [List.length_append, Qa]; exact a, (hb.alloc (Nat.le_trans hlo hb.size) o).grown b (by have := hb.size; simp; omega) (fun g hg => (h.lt g hg).1)⟩)
  have NL := Vd (fun (l : List Int) => qL w (bts l) 5)
  have HX := Vd (fun (o : Obj) => h.alloc o)
  obtain ⟨n, hn⟩ : ∃ n, n = xs.length := ⟨_, rfl⟩
  have H2 : Hid (∀ k, k <= 4 -> xs.length + k <= maxLen /\ (xs.length + k) * 1 <= 140737488355328) := Vd (fun k hk => by unfold maxLen; omega)
  have H4 : Hid (∀ o : Obj, LO <= (w.alloc o).heap.size) := Vd (fun o => by simp; omega)
  have H1 := Vd (fun (l : List Int) => bts_one l)
  have BI : Hid (qq r = if zq r < 128 then [zq r] else if zq r < 2048 then [192 + zq r / 64, 128 + zq r % 64] else if zq r < 65536 then [224 + zq r / 4096, 128 + zq r / 64 % 64, 128 + zq r % 64]
    else [240 + zq r / 262144, 128 + zq r / 4096 % 64, 128 + zq r / 64 % 64, 128 + zq r % 64]) := Vd rfl
  have hcr := kR r
  have CI : Hid (zq r = if 0 <= r /\ r <= 1114111 /\ (r < 55296 \/ 57343 < r) then r else 65533) := Vd rfl
  generalize qq r = B at *
  generalize zq r = c at *
  clear h hn hm hlo
  go_enter Tryz.func120, Tryz.ntmps120
  go_upto_region 1 with fail
  obtain ⟨β, hβ⟩ : ∃ β : Bool, β = !decide (0 <= r /\ r <= 1114111 /\ (r < 55296 \/ 57343 < r)) := ⟨_, rfl⟩
  have HB := Vd hβ
  clear hβ
  go_cut [20] from 7 to 20 (fun s20 wx => s20 = .bool β /\ wx = w)
  case first =>
    by_cases c1 : r < 0
    · have E : Hid (β = true) := Vd (by rw [HB.out, decide_eq_false (by omega)]; rfl)
      go_wp2_with fail
      go_meet
      exact ⟨by rw [E.out], rfl⟩
    · by_cases c2 : r < 55296
      · have E : Hid (β = false) := Vd (by rw [HB.out, decide_eq_true (by omega)]; rfl)
        go_wp2_with fail
        go_meet
        exact ⟨by rw [E.out, decide_eq_false (by omega)], rfl⟩
      · by_cases c3 : r <= 57343
        · have E : Hid (β = true) := Vd (by rw [HB.out, decide_eq_false (by omega)]; rfl)
          go_wp2_with fail
          go_meet
          exact ⟨by rw [E.out], rfl⟩
        · by_cases c4 : 1114111 < r
          · have E : Hid (β = true) := Vd (by rw [HB.out, decide_eq_false (by omega)]; rfl)
            go_wp2_with fail
            go_meet
            exact ⟨by rw [E.out], rfl⟩
          · have E : Hid (β = false) := Vd (by rw [HB.out, decide_eq_true (by omega)]; rfl)
            go_wp2_with fail
            go_meet
            exact ⟨by rw [E.out], rfl⟩
  case rest =>
   obtain ⟨rfl, rfl⟩ := hcut
   obtain ⟨W, hW⟩ : ∃ W, W = wc := ⟨_, rfl⟩
   subst hW
   go_upto_if 20 with fail
   go_cut [1] from 20 to 20 (fun s1 wx => s1 = .int .i32 c /\ wx = W)
   case first =>
    cases hb : β with
    | true =>
      have E : Hid (c = 65533) := Vd (by
        have h := HB.out
        rw [hb] at h
        rw [CI.out, if_neg (fun z => by rw [decide_eq_true z] at h; cases h)])
      clear hb HB
      go_wp2_with fail
      go_meet
      exact ⟨by rw [E.out], rfl⟩
    | false =>
      have E : Hid (c = r) := Vd (by
        have h := HB.out
        rw [hb] at h
        rw [CI.out, if_pos (Decidable.byContradiction fun z => by rw [decide_eq_false z] at h; cases h)])
      clear hb HB
      go_wp2_with fail
      go_meet
      exact ⟨by rw [E.out], rfl⟩
   case rest =>
    obtain ⟨rfl, rfl⟩ := hcut
    clear HB
    obtain ⟨h0, h1⟩ := hcr
    clear CI hr0 hr1
    have a0 := vq c h0 (by omega)
    have a1 := vq (c / 64) (by omega) (by omega)
    have a2 := vq (c / 64 / 64) (by omega) (by omega)
    have o0 := Go.u8_or128 (c % 64) (by omega) (by omega)
    have o1 := Go.u8_or128 (c / 64 % 64) (by omega) (by omega)
    have o2 := Go.u8_or128 (c / 64 / 64 % 64) (by omega) (by omega)
    have x63 : bits .xor .u8 IntKind.u8.max 63 = 192 := by decide
    have x31 : bits .xor .u8 IntKind.u8.max 31 = 224 := by decide
    have x15 : bits .xor .u8 IntKind.u8.max 15 = 240 := by decide
    have sgn : ¬ IntKind.u8.signed = true := by decide
    by_cases t1 : c < 128
    · have E : Hid (B = [c]) := Vd (by rw [BI.out, if_pos t1])
      go_wp2_with (at_builtin; refine wpList_append_own _ rfl (.tmp 23) (.tmp 26) 66 rfl LO 5 i0 (.int .u8 0) 1 1 Tryz.underlying66 hi0 hz0 hz1 hz2 rfl (by decide) _ _ _ rfl (HX.out _) ⟨wc.heap.size, 0, none⟩ 1 1 (bts [c]) rfl rfl (NL.out [c]) (H1.out _) (H2.out 1 (by decide)).1 (H2.out 1 (by decide)).2 (H4.out _) ?_; intro v' w3 hown3 hg3 _)
      have R := Vd (O1.out wc [c] _ (Below.refl _ _) v' w3 hown3 hg3)
      clear hown3 hg3
      go_wp2_with fail
      go_ret
      rw [E.out]
      exact R.out
    by_cases t2 : c < 2048
    · have E : Hid (B = [192 + c / 64, 128 + c % 64]) := Vd (by rw [BI.out, if_neg t1, if_pos t2])
      have ql : bits .or .u8 (c / 64) 192 = 192 + c / 64 := by have := or_u8 (c / 64).toNat 192 (by omega); rw [show (((c / 64).toNat : Nat) : Int) = c / 64 by omega] at this; simpa using (this.trans (by omega))
      have NC : Hid (∀ j u, (bts [192 + c / 64, 128 + c % 64])[j]? = some u -> (wc.alloc (.cells #[.int .u8 (192 + c / 64), .int .u8 (128 + c % 64), .int .u8 0, .int .u8 0] 177)).cell? ((⟨wc.heap.size, 0, none⟩ : Addr).add j) = some u) := Vd (fun j u hj => qL wc [.int .u8 (192 + c / 64), .int .u8 (128 + c % 64), .int .u8 0, .int .u8 0] 177 j u (by
        have : j < 2 := (List.getElem?_eq_some_iff.1 hj).1
        have q : j = 0 \/ j = 1 := by omega
        rcases q with rfl | rfl <;> exact hj))
      go_wp2_with (at_builtin; refine wpList_append_own _ rfl (.tmp 67) (.tmp 69) 66 rfl LO 5 i0 (.int .u8 0) 1 1 Tryz.underlying66 hi0 hz0 hz1 hz2 rfl (by decide) _ _ _ rfl (HX.out _) ⟨wc.heap.size, 0, none⟩ 2 4 (bts [192 + c / 64, 128 + c % 64]) rfl rfl NC.out (H1.out _) (H2.out 2 (by decide)).1 (H2.out 2 (by decide)).2 (H4.out _) ?_; intro v' w3 hown3 hg3 _)
      have R := Vd (O1.out wc [192 + c / 64, 128 + c % 64] _ (Below.refl _ _) v' w3 hown3 hg3)
      clear hown3 hg3
      go_wp2_with fail
      go_ret
      rw [E.out]
      exact R.out
    by_cases t3 : c < 65536
    · have E : Hid (B = [224 + c / 64 / 64, 128 + c / 64 % 64, 128 + c % 64]) := Vd (by rw [BI.out, if_neg t1, if_neg t2, if_pos t3, show c / 4096 = c / 64 / 64 by omega])
      have ql : bits .or .u8 (c / 64 / 64) 224 = 224 + c / 64 / 64 := by have := or_u8 (c / 64 / 64).toNat 224 (by omega); rw [show (((c / 64 / 64).toNat : Nat) : Int) = c / 64 / 64 by omega] at this; simpa using (this.trans (by omega))
      have NC : Hid (∀ j u, (bts [224 + c / 64 / 64, 128 + c / 64 % 64, 128 + c % 64])[j]? = some u -> (wc.alloc (.cells #[.int .u8 (224 + c / 64 / 64), .int .u8 (128 + c / 64 % 64), .int .u8 (128 + c % 64), .int .u8 0] 177)).cell? ((⟨wc.heap.size, 0, none⟩ : Addr).add j) = some u) := Vd (fun j u hj => qL wc [.int .u8 (224 + c / 64 / 64), .int .u8 (128 + c / 64 % 64), .int .u8 (128 + c % 64), .int .u8 0] 177 j u (by
        have : j < 3 := (List.getElem?_eq_some_iff.1 hj).1
        have q : j = 0 \/ j = 1 \/ j = 2 := by omega
        rcases q with rfl | rfl | rfl <;> exact hj))
      go_wp2_with (at_builtin; refine wpList_append_own _ rfl (.tmp 67) (.tmp 69) 66 rfl LO 5 i0 (.int .u8 0) 1 1 Tryz.underlying66 hi0 hz0 hz1 hz2 rfl (by decide) _ _ _ rfl (HX.out _) ⟨wc.heap.size, 0, none⟩ 3 4 (bts [224 + c / 64 / 64, 128 + c / 64 % 64, 128 + c % 64]) rfl rfl NC.out (H1.out _) (H2.out 3 (by decide)).1 (H2.out 3 (by decide)).2 (H4.out _) ?_; intro v' w3 hown3 hg3 _)
      have R := Vd (O1.out wc [224 + c / 64 / 64, 128 + c / 64 % 64, 128 + c % 64] _ (Below.refl _ _) v' w3 hown3 hg3)
      clear hown3 hg3
      go_wp2_with fail
      go_ret
      rw [E.out]
      exact R.out
    have E : Hid (B = [240 + c / 64 / 64 / 64, 128 + c / 64 / 64 % 64, 128 + c / 64 % 64, 128 + c % 64]) := Vd (by rw [BI.out, if_neg t1, if_neg t2, if_neg t3, show c / 262144 = c / 64 / 64 / 64 by omega, show c / 4096 = c / 64 / 64 by omega])
    have ql : bits .or .u8 (c / 64 / 64 / 64) 240 = 240 + c / 64 / 64 / 64 := by have := or_u8 (c / 64 / 64 / 64).toNat 240 (by omega); rw [show (((c / 64 / 64 / 64).toNat : Nat) : Int) = c / 64 / 64 / 64 by omega] at this; simpa using (this.trans (by omega))
    have NC : Hid (∀ j u, (bts [240 + c / 64 / 64 / 64, 128 + c / 64 / 64 % 64, 128 + c / 64 % 64, 128 + c % 64])[j]? = some u -> (wc.alloc (.cells #[.int .u8 (240 + c / 64 / 64 / 64), .int .u8 (128 + c / 64 / 64 % 64), .int .u8 (128 + c / 64 % 64), .int .u8 (128 + c % 64)] 177)).cell? ((⟨wc.heap.size, 0, none⟩ : Addr).add j) = some u) := Vd (fun j u hj => qL wc [.int .u8 (240 + c / 64 / 64 / 64), .int .u8 (128 + c / 64 / 64 % 64), .int .u8 (128 + c / 64 % 64), .int .u8 (128 + c % 64)] 177 j u (by
      have : j < 4 := (List.getElem?_eq_some_iff.1 hj).1
      have q : j = 0 \/ j = 1 \/ j = 2 \/ j = 3 := by omega
      rcases q with rfl | rfl | rfl | rfl <;> exact hj))
    go_wp2_with (at_builtin; refine wpList_append_own _ rfl (.tmp 67) (.tmp 69) 66 rfl LO 5 i0 (.int .u8 0) 1 1 Tryz.underlying66 hi0 hz0 hz1 hz2 rfl (by decide) _ _ _ rfl (HX.out _) ⟨wc.heap.size, 0, none⟩ 4 4 (bts [240 + c / 64 / 64 / 64, 128 + c / 64 / 64 % 64, 128 + c / 64 % 64, 128 + c % 64]) rfl rfl NC.out (H1.out _) (H2.out 4 (by decide)).1 (H2.out 4 (by decide)).2 (H4.out _) ?_; intro v' w3 hown3 hg3 _)
    have R := Vd (O1.out wc [240 + c / 64 / 64 / 64, 128 + c / 64 / 64 % 64, 128 + c / 64 % 64, 128 + c % 64] _ (Below.refl _ _) v' w3 hown3 hg3)
    clear hown3 hg3
    go_wp2_with fail
    go_ret
    rw [E.out]
    exact R.out
end
section
open Go.RowKit Go.Sort
theorem Xl (l : List Int) : l.foldl (fun r n => r.push (UInt8.ofNat n.toNat)) ByteArray.empty = barr l := by
 have h : ∀ (l : List Int) (s : ByteArray), l.foldl (fun r n => r.push (UInt8.ofNat n.toNat)) s = ⟨s.data ++ (l.map fun n => UInt8.ofNat n.toNat).toArray⟩ := by
  intro l
  induction l with
  | nil => intro s; simp
  | cons n l ih =>
   intro s
   rw [List.foldl_cons, ih]
   simp [ByteArray.push]
 rw [h]
 unfold barr
 have : ByteArray.empty.data = #[] := rfl
 rw [this]
 simp
theorem kt {LO : Nat} {v : Value} {l : List Int} {w : World} (h : w.ownsRow LO 5 1 v l.length (bts l)) : (convert 66 9 v).run Tryz.prog w = .ok (.string (barr l)) w := by
 rcases (xK h).2 with ⟨rfl, z⟩ | ⟨g, c, rfl, _, _, _, _⟩
 ·have e : l = [] := List.length_eq_zero_iff.1 z
  subst e
  exact Lib.run_convert_nil_bytes w _ _ 5 0 Tryz.underlying66 Tryz.underlying5 Tryz.underlying9
 ·rw [run_convert_bytes_string w _ _ 5 (some ⟨g, 0, none⟩) l.length c Tryz.underlying66 Tryz.underlying5 Tryz.underlying9]
  have hl := run_loadCells_list (P := Tryz.prog) w ⟨g, 0, none⟩ (bts l) (h.cells (g := g) rfl)
  have e : (bts l).length = l.length := by simp [bts]
  rw [e] at hl
  rw [run_bytesToString w _ l.length c l hl, Xl]
theorem jd {w : World} {B : Nat} {A : Option Addr} {l : List Int} (h : Sees w B A (rns l)) (k : Nat) (hk : k < l.length) : ∃ ad, A = some ad /\ ad.block < B /\ w.cell? (ad.add k) = some (.int .i32 (l.getD k 0)) := by
 obtain ⟨ad, e, b, c⟩ := h.at (k := k) (by simpa [rns] using hk)
 refine ⟨ad, e, b, ?_⟩
 rw [c]
 simp [rns, hk]
theorem Qb (l : List Int) (k : Nat) (hk : k < l.length) : l.getD k 0 ∈ l := by
 have e : l.getD k 0 = l[k] := by simp [hk]
 rw [e]
 exact List.getElem_mem _
set_option maxHeartbeats 8000000 in
set_option maxRecDepth 100000 in
theorem d_Text (A : Option Addr) (c : Nat) (l : List Int) (hl : l.length <= 35184372000000) (hr : ∀ r ∈ l, 0 <= r /\ r < 2097152) (w : World) (S : Sees w w.heap.size A (rns l)) :
  Calls Tryz.prog 103 #[.slice A l.length c] w fun e w' => e = .returned (.string (barr (zo l))) /\ Below w.heap.size w w' := by
 have F1 := Vd (fun (k : Nat) (hk : k < l.length) => jd S k hk)
 have HR := Vd hr
 clear S hr
 obtain ⟨n, hn⟩ : ∃ n, n = l.length := ⟨_, rfl⟩
 have HN := Vd hn
 rw [<- hn] at hl F1 ⊢
 clear hn
 have XT : Hid (∀ k (hk : k < l.length), zo (l.take (k + 1)) = zo (l.take k) ++ qq (l.getD k 0)) := Vd (fun k hk => by
  have e : l.getD k 0 = l[k] := by simp [hk]
  rw [e, List.take_succ_eq_append_getElem hk, Zk])
 have XE : Hid (zo (l.take n) = zo l) := Vd (by rw [HN.out, List.take_length])
 have XL : Hid (∀ k, k <= n -> (zo (l.take k)).length <= 4 * k) := Vd (fun k hk => Nat.le_trans (kS _) (by rw [List.length_take]; omega))
 obtain ⟨LO, hLO⟩ : ∃ LO, LO = w.heap.size := ⟨_, rfl⟩
 have HLO := Vd hLO
 have O0 : Hid (w.ownsRow LO 5 1 (.slice none 0 0) (zo (l.take 0)).length (bts (zo (l.take 0))) /\ Below LO w w) := Vd ⟨World.ownsRow_nil _ _ _ _, Below.refl _ _⟩
 rw [<- hLO] at F1 ⊢
 clear hLO
 go_enter Tryz.func103, Tryz.ntmps103
 go_wp2_with fail
 go_loopw [3, 5, 8] (fun s3 s5 s8 wr => ∃ (k : Nat), k <= n /\ s8 = .int .i64 k /\ Hid (wr.ownsRow LO 5 1 s3 (zo (l.take k)).length (bts (zo (l.take k))) /\ Below LO w wr)) (fun _ _ s8 _ => n - (intOf s8).toNat)
 case atStart => exact ⟨0, by omega, rfl, O0⟩
 case round =>
  obtain ⟨k, hk, rfl, ho⟩ := hrel
  by_cases lt : k < n
  ·have lt' : k < l.length := by rw [<- HN.out]; exact lt
   obtain ⟨ad, rfl, hab, c0⟩ := F1.out k lt
   have cx := (ho.out.2.cell (p := ad.add k) (by rw [zj]; exact hab)).trans c0
   have bd := HR.out (l.getD k 0) (Qb l k lt')
   have PU := Vd ((d_put LO _ (zo (l.take k)) (l.getD k 0) (by omega) (by omega) wr (by have := ho.out.2.size; rw [HLO.out]; omega) (by have := XL.out k hk; omega) ho.out.1).mono (R' := fun e w' => ∃ v', e = .returned v' /\ Hid (w'.ownsRow LO 5 1 v' (zo (l.take (k + 1))).length (bts (zo (l.take (k + 1)))) /\ Below LO w w'))
    (fun e w' ⟨v', h1, h2, h3⟩ => ⟨v', h1, Vd ⟨by rw [XT.out k lt']; exact h2, ho.out.2.trans h3⟩⟩))
   clear c0 bd
   generalize l.getD k 0 = r at *
   go_wp2_with fail
   refine PU.out.mono ?_; rintro e w1 ⟨v', rfl, SS⟩
   go_wp2_with fail
   go_roundw
   case rel => exact ⟨k + 1, by omega, by go_num, SS⟩
   case measure => (simp [intOf] <;> omega)
  ·have ek : k = n := by omega
   subst ek
   rw [XE.out] at ho
   have hcv := kt ho.out.1
   have BB := Vd ho.out.2
   clear ho
   go_wp2_with fail
   go_ret
   exact ⟨rfl, BB.out⟩
end
end Go.Proofs.YtifoijbpbigaaaaGreatDoor
