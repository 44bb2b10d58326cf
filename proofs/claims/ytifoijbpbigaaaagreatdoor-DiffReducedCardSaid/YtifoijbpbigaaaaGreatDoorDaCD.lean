/- What lies below tapes (kept of earlier texts: ColA, Byte, StyPl, DfS, DfO, RaI, ColB, ColC, StyC, StyO, DfM, RaJ). -/
import Derived.Test.YtifoijbpbigaaaaGreatDoorDaCC
import Derived.Laws.BitsAllLaws
import Derived.Laws.ShiftsVarLaws
import Derived.StillTailTactics
import Derived.Deep.Slices
set_option linter.unusedVariables false
set_option linter.unusedSimpArgs false
namespace Go.Proofs.YtifoijbpbigaaaaGreatDoor
section
open Go.RowKit
def zw (c : Int) : Bool := decide (c = 0 \/ c = 1 \/ (256 <= c /\ c < 512) \/ (16777216 <= c /\ c < 33554432))
def cnt (c : Int) : Int := if zw c = true then c else 0
theorem kq (c : Int) : Tells 78 #[.int .i32 c] (.bool (zw c)) := by
 intro w
 by_cases h0 : c = 0
 ·subst h0
  go_enter Tryz.func78, Tryz.ntmps78
  go_wp2
  go_ret
  exact ⟨rfl, rfl⟩
 by_cases h1 : c = 1
 ·subst h1
  go_enter Tryz.func78, Tryz.ntmps78
  go_wp2
  go_ret
  exact ⟨rfl, rfl⟩
 by_cases h2 : 16777216 <= c
 ·by_cases h3 : c < 33554432
  all_goals
   have H : Hid (zw c = decide (c < 33554432)) := by unfold zw Hid; rw [decide_eq_decide]; omega
   go_enter Tryz.func78, Tryz.ntmps78
   go_wp2
   go_ret
   exact ⟨zu (by rw [H.out]; simp [h3]), rfl⟩
 ·by_cases h3 : 256 <= c
  ·by_cases h4 : c < 512
   all_goals
    have H : Hid (zw c = decide (c < 512)) := by unfold zw Hid; rw [decide_eq_decide]; omega
    go_enter Tryz.func78, Tryz.ntmps78
    go_wp2
    go_ret
    exact ⟨zu (by rw [H.out]; simp [h4]), rfl⟩
  ·have H : Hid (zw c = false) := by unfold zw Hid; rw [decide_eq_false_iff_not]; omega
   go_enter Tryz.func78, Tryz.ntmps78
   go_wp2
   go_ret
   exact ⟨zu (by rw [H.out]), rfl⟩
theorem jw (c : Int) : Tells 62 #[.int .i32 c] (.int .i32 (cnt c)) := by
 intro w
 cases h : zw c
 all_goals
  have H : Hid (cnt c = if zw c = true then c else 0) := rfl
  go_enter Tryz.func62, Tryz.ntmps62
  go_wp2_with (go_at_call 78; refine (kq _ _).mono ?_; rintro e w' ⟨rfl, rfl⟩; rw [h])
  go_ret
  exact ⟨zC (by rw [H.out, h]; simp), rfl⟩
def lev (n : Int) : Int := if n = 0 then 0 else 55 + 40 * n
def zI (b lo hi : Int) : Int := if b = 1 then hi else lo
def pr (n : Int) : Int := if n < 8 then zI (n % 2) 0 170 else if n < 16 then zI (n % 2) 85 255 else if n < 232 then lev ((n - 16) / 36) else 8 + 10 * (n - 232)
def pg (n : Int) : Int := if n < 8 then zI (n / 2 % 2) 0 170 else if n < 16 then zI (n / 2 % 2) 85 255 else if n < 232 then lev ((n - 16) / 6 % 6) else 8 + 10 * (n - 232)
def pb (n : Int) : Int := if n < 8 then zI (n / 4 % 2) 0 170 else if n < 16 then zI (n / 4 % 2) 85 255 else if n < 232 then lev ((n - 16) % 6) else 8 + 10 * (n - 232)
theorem Q8 (n : Int) (h0 : 0 <= n) (h1 : n <= 5) : Tells 95 #[.int .i64 n] (.int .u8 (lev n)) := by
 intro w
 by_cases h : n = 0
 ·subst h
  go_enter Tryz.func95, Tryz.ntmps95
  go_wp2
  go_ret
  exact ⟨rfl, rfl⟩
 ·have H : Hid (lev n = 55 + 40 * n) := by unfold lev Hid; rw [if_neg h]
  go_enter Tryz.func95, Tryz.ntmps95
  go_wp2
  go_ret
  exact ⟨zC (by rw [H.out]), rfl⟩
set_option maxHeartbeats 4000000 in
theorem Q9 (n : Int) (h0 : 0 <= n) (h1 : n < 16) : Gives 79 #[.int .i64 n] (arr3 (pr n) (pg n) (pb n)) := by
 intro w
 have : n = 0 \/ n = 1 \/ n = 2 \/ n = 3 \/ n = 4 \/ n = 5 \/ n = 6 \/ n = 7 \/ n = 8 \/ n = 9 \/ n = 10 \/ n = 11 \/ n = 12 \/ n = 13 \/ n = 14 \/ n = 15 := by omega
 clear h0 h1
 rcases this with rfl | rfl | rfl | rfl | rfl | rfl | rfl | rfl | rfl | rfl | rfl | rfl | rfl | rfl | rfl | rfl
 ·go_enter Tryz.func79, Tryz.ntmps79
  go_wp2
  go_rounds 4
  exact bodyPost_ret (v := arr3 0 0 0) (by simp [arr3, results, Tryz.results79, go_sem]) rfl ⟨rfl, by go_grown⟩
 ·go_enter Tryz.func79, Tryz.ntmps79
  go_wp2
  go_rounds 4
  exact bodyPost_ret (v := arr3 170 0 0) (by simp [arr3, results, Tryz.results79, go_sem]) rfl ⟨rfl, by go_grown⟩
 ·go_enter Tryz.func79, Tryz.ntmps79
  go_wp2
  go_rounds 4
  exact bodyPost_ret (v := arr3 0 170 0) (by simp [arr3, results, Tryz.results79, go_sem]) rfl ⟨rfl, by go_grown⟩
 ·go_enter Tryz.func79, Tryz.ntmps79
  go_wp2
  go_rounds 4
  exact bodyPost_ret (v := arr3 170 170 0) (by simp [arr3, results, Tryz.results79, go_sem]) rfl ⟨rfl, by go_grown⟩
 ·go_enter Tryz.func79, Tryz.ntmps79
  go_wp2
  go_rounds 4
  exact bodyPost_ret (v := arr3 0 0 170) (by simp [arr3, results, Tryz.results79, go_sem]) rfl ⟨rfl, by go_grown⟩
 ·go_enter Tryz.func79, Tryz.ntmps79
  go_wp2
  go_rounds 4
  exact bodyPost_ret (v := arr3 170 0 170) (by simp [arr3, results, Tryz.results79, go_sem]) rfl ⟨rfl, by go_grown⟩
 ·go_enter Tryz.func79, Tryz.ntmps79
  go_wp2
  go_rounds 4
  exact bodyPost_ret (v := arr3 0 170 170) (by simp [arr3, results, Tryz.results79, go_sem]) rfl ⟨rfl, by go_grown⟩
 ·go_enter Tryz.func79, Tryz.ntmps79
  go_wp2
  go_rounds 4
  exact bodyPost_ret (v := arr3 170 170 170) (by simp [arr3, results, Tryz.results79, go_sem]) rfl ⟨rfl, by go_grown⟩
 ·go_enter Tryz.func79, Tryz.ntmps79
  go_wp2
  go_rounds 4
  exact bodyPost_ret (v := arr3 85 85 85) (by simp [arr3, results, Tryz.results79, go_sem]) rfl ⟨rfl, by go_grown⟩
 ·go_enter Tryz.func79, Tryz.ntmps79
  go_wp2
  go_rounds 4
  exact bodyPost_ret (v := arr3 255 85 85) (by simp [arr3, results, Tryz.results79, go_sem]) rfl ⟨rfl, by go_grown⟩
 ·go_enter Tryz.func79, Tryz.ntmps79
  go_wp2
  go_rounds 4
  exact bodyPost_ret (v := arr3 85 255 85) (by simp [arr3, results, Tryz.results79, go_sem]) rfl ⟨rfl, by go_grown⟩
 ·go_enter Tryz.func79, Tryz.ntmps79
  go_wp2
  go_rounds 4
  exact bodyPost_ret (v := arr3 255 255 85) (by simp [arr3, results, Tryz.results79, go_sem]) rfl ⟨rfl, by go_grown⟩
 ·go_enter Tryz.func79, Tryz.ntmps79
  go_wp2
  go_rounds 4
  exact bodyPost_ret (v := arr3 85 85 255) (by simp [arr3, results, Tryz.results79, go_sem]) rfl ⟨rfl, by go_grown⟩
 ·go_enter Tryz.func79, Tryz.ntmps79
  go_wp2
  go_rounds 4
  exact bodyPost_ret (v := arr3 255 85 255) (by simp [arr3, results, Tryz.results79, go_sem]) rfl ⟨rfl, by go_grown⟩
 ·go_enter Tryz.func79, Tryz.ntmps79
  go_wp2
  go_rounds 4
  exact bodyPost_ret (v := arr3 85 255 255) (by simp [arr3, results, Tryz.results79, go_sem]) rfl ⟨rfl, by go_grown⟩
 ·go_enter Tryz.func79, Tryz.ntmps79
  go_wp2
  go_rounds 4
  exact bodyPost_ret (v := arr3 255 255 255) (by simp [arr3, results, Tryz.results79, go_sem]) rfl ⟨rfl, by go_grown⟩
theorem vL (n : Int) (h0 : 0 <= n) (h1 : n < 256) : Gives 79 #[.int .i64 n] (arr3 (pr n) (pg n) (pb n)) := by
 by_cases c : n < 16
 ·exact Q9 n h0 c
 intro w
 by_cases c2 : n < 232
 ·have H : Hid (pr n = lev ((n - 16) / 36) /\ pg n = lev ((n - 16) / 6 % 6) /\ pb n = lev ((n - 16) % 6)) := by
   unfold Hid pr pg pb
   rw [if_neg (by omega), if_neg c, if_pos c2, if_neg (by omega), if_neg c, if_pos c2, if_neg (by omega), if_neg c, if_pos c2]
   exact ⟨rfl, rfl, rfl⟩
  go_enter Tryz.func79, Tryz.ntmps79
  go_wp2_with (go_at_call 95; refine (Q8 _ (by omega) (by omega) _).mono ?_; rintro e w' ⟨rfl, rfl⟩)
  exact bodyPost_ret (v := arr3 (lev ((n - 16) / 36)) (lev ((n - 16) / 6 % 6)) (lev ((n - 16) % 6))) (by simp [arr3, results, Tryz.results79, go_sem]) rfl ⟨by rw [H.out.1, H.out.2.1, H.out.2.2], by go_grown⟩
 ·have H : Hid (pr n = 8 + 10 * (n - 232) /\ pg n = 8 + 10 * (n - 232) /\ pb n = 8 + 10 * (n - 232)) := by
   unfold Hid pr pg pb
   rw [if_neg (by omega), if_neg c, if_neg c2, if_neg (by omega), if_neg c, if_neg c2, if_neg (by omega), if_neg c, if_neg c2]
   exact ⟨rfl, rfl, rfl⟩
  go_enter Tryz.func79, Tryz.ntmps79
  go_wp2
  exact bodyPost_ret (v := arr3 (8 + 10 * (n - 232)) (8 + 10 * (n - 232)) (8 + 10 * (n - 232))) (by simp [arr3, results, Tryz.results79, go_sem]) rfl ⟨by rw [H.out.1, H.out.2.1, H.out.2.2], by go_grown⟩
end
section
open Go.RowKit
abbrev B8 := BitVec 8
abbrev bI (a : B8) : Int := (a.toNat : Int)
theorem bI_lt (a : B8) : 0 <= bI a /\ bI a < 256 := ⟨Int.natCast_nonneg _, by have := a.isLt; show (a.toNat : Int) < 256; omega⟩
theorem xc {a b : B8} (h : bI a = bI b) : a = b := BitVec.eq_of_toNat_eq (by exact_mod_cast h)
theorem bI_of (n : Int) (h0 : 0 <= n) (h1 : n < 256) : ∃ a : B8, bI a = n := ⟨BitVec.ofNat 8 n.toNat, by show ((BitVec.ofNat 8 n.toNat).toNat : Int) = n; rw [BitVec.toNat_ofNat]; omega⟩
@[go_sem] theorem b8_and (a b : B8) : bits .and .u8 (bI a) (bI b) = bI (a &&& b) := by
 rw [u8_and_nat _ _ a.isLt b.isLt, <- BitVec.toNat_and]
@[go_sem] theorem b8_or (a b : B8) : bits .or .u8 (bI a) (bI b) = bI (a ||| b) := by
 rw [u8_or_nat _ _ a.isLt b.isLt, <- BitVec.toNat_or]
@[go_sem] theorem b8_andNot (a b : B8) : bits .andNot .u8 (bI a) (bI b) = bI (a &&& ~~~b) := by
 rw [u8_andNot_nat _ _ a.isLt b.isLt]
 show _ = ((a &&& ~~~b).toNat : Int)
 rw [BitVec.toNat_and, BitVec.toNat_not]
@[go_sem] theorem vM (a : B8) (n : Nat) (h : n < 256) : bits .and .u8 (bI a) (n : Int) = bI (a &&& BitVec.ofNat 8 n) := by
 rw [u8_and_nat _ _ a.isLt h]
 show _ = ((a &&& BitVec.ofNat 8 n).toNat : Int)
 rw [BitVec.toNat_and, BitVec.toNat_ofNat, Nat.mod_eq_of_lt h]
theorem kv (a : B8) (i : Nat) (h : i < 8) : bits .and .u8 (bI a / 2 ^ i) 1 = if a.getLsbD i = true then 1 else 0 := by
 have e : bI a / 2 ^ i = ((a.toNat / 2 ^ i : Nat) : Int) := by
  show (a.toNat : Int) / 2 ^ i = _
  rw [Int.natCast_ediv]
  congr 1
 have l : a.toNat / 2 ^ i < 256 := Nat.lt_of_le_of_lt (Nat.div_le_self _ _) a.isLt
 rw [e, show (1 : Int) = ((1 : Nat) : Int) from rfl, u8_and_nat _ _ l (by decide), Nat.and_one_is_mod]
 have t : a.getLsbD i = decide (a.toNat / 2 ^ i % 2 = 1) := by
  show a.toNat.testBit i = _
  rw [Nat.testBit_eq_decide_div_mod_eq]
 rw [t]
 by_cases c : a.toNat / 2 ^ i % 2 = 1
 ·rw [c]; simp
 ·have : a.toNat / 2 ^ i % 2 = 0 := by omega
  rw [this]; simp
end
section
open Go.RowKit
structure Sty where
 fg : Int
 bg : Int
 at_ : B8
 deriving DecidableEq
structure Pat where
 fg : Int
 bg : Int
 add : B8
 drop : B8
 deriving DecidableEq
def plC (c : Int) : Int := if c = 1 then 0 else cnt c
def zq (s : Sty) : Sty := ⟨plC s.fg, plC s.bg, s.at_⟩
def layC (c p : Int) : Int := if p = 0 then c else if p = 1 then 0 else p
def jg (s : Sty) (p : Pat) : Sty := ⟨layC s.fg (cnt p.fg), layC s.bg (cnt p.bg), (s.at_ &&& ~~~p.drop) ||| p.add⟩
def jx (s : Sty) (l : List Pat) : Sty := l.foldl jg (zq s)
def colL (c base : Int) : List Int :=
 if c = 0 then [base + 9]
 else if 16777216 <= c then [base + 8, 2, (c - 16777216) / 65536, (c - 16777216) / 256 % 256, (c - 16777216) % 256]
 else if 272 <= c then [base + 8, 5, c - 256]
 else if 264 <= c then [base + 60 + (c - 264)]
 else [base + (c - 256)]
def onN (i : Nat) : Int := [1, 2, 3, 4, 5, 7, 8, 9].getD i 0
def offN (i : Nat) : Int := [22, 22, 23, 24, 25, 27, 28, 29].getD i 0
def setL (b : B8) : List Int := ((List.range 8).filter fun i => b.getLsbD i).map onN
def jy (b : B8) : List Int := ((List.range 8).filter fun i => decide (2 <= i) && b.getLsbD i).map offN
def qJ (a b : B8) : Bool := (a &&& ~~~b) &&& 3 != 0
def oneL (a b : Sty) : List Int :=
 (if qJ a.at_ b.at_ then [22] else []) ++ jy (a.at_ &&& ~~~b.at_) ++ setL ((b.at_ &&& ~~~a.at_) ||| (if qJ a.at_ b.at_ then b.at_ &&& 3 else 0))
 ++ (if a.fg = b.fg then [] else colL b.fg 30) ++ (if a.bg = b.bg then [] else colL b.bg 40)
def twoL (b : Sty) : List Int := [0] ++ setL b.at_ ++ (if b.fg = 0 then [] else colL b.fg 30) ++ (if b.bg = 0 then [] else colL b.bg 40)
def digN (n : Int) : Int := if n < 10 then 1 else if n < 100 then 2 else 3
def qq (l : List Int) : Int := (l.map digN).sum + ((l.length : Int) - 1)
def qn (f t : Sty) : List Int :=
 if zq f = zq t then [] else if qq (twoL (zq t)) < qq (oneL (zq f) (zq t)) then twoL (zq t) else oneL (zq f) (zq t)
end
section
open Go.RowKit
theorem cnt_cnt (c : Int) : cnt (cnt c) = cnt c := by
 unfold cnt
 by_cases r : zw c = true
 ·rw [if_pos r, if_pos r]
 ·rw [if_neg r]; rfl
theorem vN (c : Int) : plC (cnt c) = layC 0 (cnt c) := by
 unfold plC layC
 by_cases z : cnt c = 0
 ·rw [z]; rfl
 ·rw [if_neg z]
  by_cases e : cnt c = 1
  ·rw [if_pos e, if_pos e]
  ·rw [if_neg e, if_neg e, cnt_cnt]
theorem b8_ext {a b : B8} (h : ∀ i, i < 8 -> a.getLsbD i = b.getLsbD i) : a = b := BitVec.eq_of_getLsbD_eq (fun i hi => h i hi)
end
section
open Go.RowKit
def setM (n : Int) : B8 := if n = 1 then 1 else if n = 2 then 2 else if n = 3 then 4 else if n = 4 then 8 else if n = 5 then 16 else if n = 7 then 32 else if n = 8 then 64 else if n = 9 then 128 else 0
def takeM (n : Int) : B8 := if n = 22 then 3 else if n = 23 then 4 else if n = 24 then 8 else if n = 25 then 16 else if n = 27 then 32 else if n = 28 then 64 else if n = 29 then 128 else 0
def attrN (a : B8) (n : Int) : B8 := (a &&& ~~~(takeM n)) ||| setM n
def z8 : Sty := ⟨0, 0, 0⟩
end
section
open Go.RowKit
def qu (c : Int) : Prop := c = 0 \/ (256 <= c /\ c < 512) \/ (16777216 <= c /\ c < 33554432)
theorem jh (c : Int) : qu (plC c) := by
 unfold plC cnt zw qu
 split
 ·exact Or.inl rfl
 ·split
  ·rename_i h1 h2
   rw [decide_eq_true_iff] at h2
   omega
  ·exact Or.inl rfl
def maskT : List Int -> B8
 | [] => 0
 | n :: r => takeM n ||| maskT r
theorem kw : ∀ x : B8, maskT (setL x) = 0 /\ (setL x).foldl attrN 0 = x /\ (setL x).length <= 8 := by decide +kernel
theorem vO : ∀ x : B8, ∀ n ∈ setL x, 0 < n /\ n < 30 := by decide +kernel
theorem Ja : ∀ x : B8, ∀ n ∈ jy x, 0 < n /\ n < 30 := by decide +kernel
end
section
open Go.RowKit
theorem vP (i : Nat) (hi : i < 8) : (3 : B8).getLsbD i = decide (i < 2) /\ (252 : B8).getLsbD i = decide (2 <= i) := by
 have : i = 0 \/ i = 1 \/ i = 2 \/ i = 3 \/ i = 4 \/ i = 5 \/ i = 6 \/ i = 7 := by omega
 rcases this with rfl | rfl | rfl | rfl | rfl | rfl | rfl | rfl <;> decide
def preL (a b : B8) : List Int := (if qJ a b then [22] else []) ++ jy (a &&& ~~~b) ++ setL ((b &&& ~~~a) ||| (if qJ a b then b &&& 3 else 0))
theorem Jb (a b : B8) : ∀ n ∈ preL a b, 0 < n /\ n < 30 := by
 intro n hn
 unfold preL at hn
 rw [List.mem_append, List.mem_append] at hn
 rcases hn with (h | h) | h
 ·split at h
  ·rw [List.mem_singleton] at h; subst h; decide
  ·cases h
 ·exact Ja _ n h
 ·exact vO _ n h
theorem vQ (c : Int) (h : qu c) : plC c = c := by
 unfold plC cnt zw
 rcases h with rfl | h | h
 ·rfl
 ·rw [if_neg (by omega), if_pos (by rw [decide_eq_true_iff]; omega)]
 ·rw [if_neg (by omega), if_pos (by rw [decide_eq_true_iff]; omega)]
theorem jj (c b : Int) : (colL c b).length <= 5 := by
 unfold colL
 split
 ·simp
 ·split
  ·simp
  ·split
   ·simp
   ·split <;> simp
end
section
open Go.RowKit
def oc (p : Nat -> Bool) : Nat := ((List.range 8).filter p).length
def on1 (b : Bool) : Nat := if b = true then 1 else 0
theorem oc_eq (p : Nat -> Bool) : oc p = on1 (p 0) + on1 (p 1) + on1 (p 2) + on1 (p 3) + on1 (p 4) + on1 (p 5) + on1 (p 6) + on1 (p 7) := by
 unfold oc on1
 rw [<- List.countP_eq_length_filter, show List.range 8 = [0, 1, 2, 3, 4, 5, 6, 7] from rfl]
 simp only [List.countP_cons, List.countP_nil]
 omega
theorem xD (b : Bool) : on1 b <= 1 := by cases b <;> decide
theorem on1_two (a b : Bool) (h : (a && b) = false) : on1 a + on1 b <= 1 := by cases a <;> cases b <;> simp_all [on1]
theorem set_oc (b : B8) : (setL b).length = oc fun i => b.getLsbD i := by unfold setL oc; rw [List.length_map]
theorem take_oc (b : B8) : (jy b).length = oc fun i => decide (2 <= i) && b.getLsbD i := by unfold jy oc; rw [List.length_map]
theorem Jc (a b : B8) (h : qJ a b = true) : b.getLsbD 0 = false \/ b.getLsbD 1 = false := by
 by_cases c : b.getLsbD 0 = true /\ b.getLsbD 1 = true
 ·exfalso
  have z : (a &&& ~~~b) &&& 3 = 0 := by
   apply b8_ext
   intro i hi
   have z0 : (0 : B8).getLsbD i = false := by simp
   simp only [BitVec.getLsbD_and, BitVec.getLsbD_not, (vP i hi).1, z0, hi, decide_true, Bool.true_and]
   by_cases i0 : i = 0
   ·subst i0; rw [c.1]; simp
   ·by_cases i1 : i = 1
    ·subst i1; rw [c.2]; simp
    ·have : ¬ i < 2 := by omega
     simp [this]
  unfold qJ at h
  rw [z] at h
  simp at h
 ·cases h0 : b.getLsbD 0
  ·exact Or.inl rfl
  ·cases h1 : b.getLsbD 1
   ·exact Or.inr rfl
   ·exact absurd ⟨h0, h1⟩ c
theorem pre_len (a b : B8) : (preL a b).length <= 8 := by
 unfold preL
 rw [List.length_append, List.length_append, set_oc, take_oc, oc_eq, oc_eq]
 have hi : ∀ i, i < 8 -> 2 <= i -> on1 (decide (2 <= i) && (a &&& ~~~b).getLsbD i) + on1 (((b &&& ~~~a) ||| (if qJ a b = true then b &&& 3 else 0)).getLsbD i) <= 1 := by
  intro i h8 h2
  apply on1_two
  have n2 : ¬ i < 2 := by omega
  have l : (if qJ a b = true then b &&& 3 else 0 : B8).getLsbD i = false := by
   split
   ·rw [BitVec.getLsbD_and, (vP i h8).1]; simp [n2]
   ·simp
  rw [BitVec.getLsbD_or, l, BitVec.getLsbD_and, BitVec.getLsbD_and, BitVec.getLsbD_not, BitVec.getLsbD_not]
  simp only [h8, decide_true, Bool.true_and, Bool.or_false]
  cases a.getLsbD i <;> cases b.getLsbD i <;> simp
 have t0 : on1 (decide (2 <= 0) && (a &&& ~~~b).getLsbD 0) = 0 := rfl
 have t1 : on1 (decide (2 <= 1) && (a &&& ~~~b).getLsbD 1) = 0 := rfl
 have h2 := hi 2 (by omega) (by omega)
 have h3 := hi 3 (by omega) (by omega)
 have h4 := hi 4 (by omega) (by omega)
 have h5 := hi 5 (by omega) (by omega)
 have h6 := hi 6 (by omega) (by omega)
 have h7 := hi 7 (by omega) (by omega)
 cases hl : qJ a b
 ·simp only [hl, Bool.false_eq_true, if_false] at h2 h3 h4 h5 h6 h7 ⊢
  have s0 := xD (((b &&& ~~~a) ||| (0 : B8)).getLsbD 0)
  have s1 := xD (((b &&& ~~~a) ||| (0 : B8)).getLsbD 1)
  simp only [List.length_nil]
  omega
 ·simp only [hl, if_true] at h2 h3 h4 h5 h6 h7 ⊢
  have s0 := xD (((b &&& ~~~a) ||| (b &&& 3)).getLsbD 0)
  have s1 := xD (((b &&& ~~~a) ||| (b &&& 3)).getLsbD 1)
  have z : on1 (((b &&& ~~~a) ||| (b &&& 3)).getLsbD 0) + on1 (((b &&& ~~~a) ||| (b &&& 3)).getLsbD 1) <= 1 := by
   rcases Jc a b hl with c | c
   ·have : ((b &&& ~~~a) ||| (b &&& 3)).getLsbD 0 = false := by rw [BitVec.getLsbD_or, BitVec.getLsbD_and, BitVec.getLsbD_and, c]; rfl
    rw [this, show on1 false = 0 from rfl]; omega
   ·have : ((b &&& ~~~a) ||| (b &&& 3)).getLsbD 1 = false := by rw [BitVec.getLsbD_or, BitVec.getLsbD_and, BitVec.getLsbD_and, c]; rfl
    rw [this, show on1 false = 0 from rfl]; omega
  simp only [List.length_cons, List.length_nil]
  omega
theorem set_full : ∀ b : B8, (setL b).length = 8 -> b = 255 := by decide +kernel
theorem set_digs : ∀ b : B8, ((setL b).map digN).sum = ((setL b).length : Int) := by decide +kernel
theorem pre_full : ∀ a : B8, (preL a 255).length <= 8 /\ ((preL a 255).map digN).sum <= 8 := by decide +kernel
theorem vR (n : Int) : 1 <= digN n := by unfold digN; split; decide; split <;> decide
theorem vS (l : List Int) : 0 <= (l.map digN).sum := by
 induction l with
 | nil => exact Int.le_refl _
 | cons n r ih => rw [List.map_cons, List.sum_cons]; have := vR n; omega
theorem two_len (b : Sty) (h : 18 < (twoL b).length) : b.at_ = 255 /\ (if b.fg = 0 then [] else colL b.fg 30).length = 5 /\ (if b.bg = 0 then [] else colL b.bg 40).length = 5 := by
 have c1 : (if b.fg = 0 then [] else colL b.fg 30).length <= 5 := by split; simp; exact jj _ _
 have c2 : (if b.bg = 0 then [] else colL b.bg 40).length <= 5 := by split; simp; exact jj _ _
 have s := (kw b.at_).2.2
 unfold twoL at h
 rw [List.length_append, List.length_append, List.length_append, List.length_singleton] at h
 exact ⟨set_full _ (by omega), by omega, by omega⟩
theorem vT (f t : Sty) : (qn f t).length <= 18 := by
 unfold qn
 generalize zq f = a
 generalize zq t = b
 have one : ∀ a b : Sty, (oneL a b).length <= 18 := by
  intro a b
  have e : oneL a b = preL a.at_ b.at_ ++ (if a.fg = b.fg then [] else colL b.fg 30) ++ (if a.bg = b.bg then [] else colL b.bg 40) := by unfold oneL preL; simp [List.append_assoc]
  have c1 : (if a.fg = b.fg then [] else colL b.fg 30).length <= 5 := by split; simp; exact jj _ _
  have c2 : (if a.bg = b.bg then [] else colL b.bg 40).length <= 5 := by split; simp; exact jj _ _
  have := pre_len a.at_ b.at_
  rw [e, List.length_append, List.length_append]
  omega
 split
 ·simp
 ·split
  ·rename_i hlt
   rcases Nat.lt_or_ge 18 (twoL b).length with h | h
   ·exfalso
    obtain ⟨h1, h2, h3⟩ := two_len b h
    obtain ⟨p1, p2⟩ := pre_full a.at_
    have e1 : oneL a b = preL a.at_ b.at_ ++ (if a.fg = b.fg then [] else colL b.fg 30) ++ (if a.bg = b.bg then [] else colL b.bg 40) := by unfold oneL preL; simp [List.append_assoc]
    have f1 : b.fg ≠ 0 := fun e => by rw [if_pos e] at h2; simp at h2
    have f2 : b.bg ≠ 0 := fun e => by rw [if_pos e] at h3; simp at h3
    rw [if_neg f1] at h2
    rw [if_neg f2] at h3
    have e2 : twoL b = [0] ++ setL b.at_ ++ colL b.fg 30 ++ colL b.bg 40 := by unfold twoL; rw [if_neg f1, if_neg f2]
    have d := set_digs b.at_
    have s8 : (setL b.at_).length = 8 := by rw [h1]; decide
    have dF := vS (colL b.fg 30)
    have dB := vS (colL b.bg 40)
    have cF : ((if a.fg = b.fg then [] else colL b.fg 30).map digN).sum <= ((colL b.fg 30).map digN).sum /\ (if a.fg = b.fg then [] else colL b.fg 30).length <= 5 := by
     split
     ·exact ⟨by simpa using dF, by simp⟩
     ·exact ⟨Int.le_refl _, by omega⟩
    have cB : ((if a.bg = b.bg then [] else colL b.bg 40).map digN).sum <= ((colL b.bg 40).map digN).sum /\ (if a.bg = b.bg then [] else colL b.bg 40).length <= 5 := by
     split
     ·exact ⟨by simpa using dB, by simp⟩
     ·exact ⟨Int.le_refl _, by omega⟩
    rw [h1] at e1
    unfold qq at hlt
    rw [e1, e2] at hlt
    simp only [List.map_append, List.sum_append, List.length_append, List.map_cons, List.map_nil, List.sum_cons, List.sum_nil, List.length_cons, List.length_nil] at hlt
    rw [d, s8, show digN 0 = 1 from rfl] at hlt
    omega
   ·exact h
  ·exact one a b
end
section
open Go.RowKit
theorem xE (c b : Int) (hc : qu c) (h0 : 0 <= b) (h1 : b <= 100) : ∀ x ∈ colL c b, 0 <= x /\ x < 1000 := by
 intro x hx
 unfold colL at hx
 rcases hc with rfl | ⟨c0, c1⟩ | ⟨c0, c1⟩
 ·rw [if_pos rfl] at hx
  simp at hx
  omega
 ·rw [if_neg (by omega), if_neg (by omega)] at hx
  split at hx
  ·simp at hx; omega
  ·split at hx
   ·simp at hx; omega
   ·simp at hx; omega
 ·rw [if_neg (by omega), if_pos c0] at hx
  simp at hx
  omega
theorem vU (a b : Sty) (h1 : qu b.fg) (h2 : qu b.bg) : ∀ x ∈ oneL a b, 0 <= x /\ x < 1000 := by
 intro x hx
 have e : oneL a b = preL a.at_ b.at_ ++ (if a.fg = b.fg then [] else colL b.fg 30) ++ (if a.bg = b.bg then [] else colL b.bg 40) := by unfold oneL preL; simp [List.append_assoc]
 rw [e, List.mem_append, List.mem_append] at hx
 rcases hx with (h | h) | h
 ·have := Jb _ _ x h; omega
 ·split at h
  ·cases h
  ·exact xE _ _ h1 (by decide) (by decide) x h
 ·split at h
  ·cases h
  ·exact xE _ _ h2 (by decide) (by decide) x h
theorem vV (b : Sty) (h1 : qu b.fg) (h2 : qu b.bg) : ∀ x ∈ twoL b, 0 <= x /\ x < 1000 := by
 intro x hx
 unfold twoL at hx
 rw [List.mem_append, List.mem_append, List.mem_append] at hx
 rcases hx with ((h | h) | h) | h
 ·simp at h; omega
 ·have := vO _ x h; omega
 ·split at h
  ·cases h
  ·exact xE _ _ h1 (by decide) (by decide) x h
 ·split at h
  ·cases h
  ·exact xE _ _ h2 (by decide) (by decide) x h
end
section
open Go.RowKit
end
section
open Go.RowKit
end
section
open Go.RowKit
structure Cel where
 text : ByteArray
 wide : Int
 st : Sty
deriving DecidableEq
def oneB (s : ByteArray) : Option Int := match zx s with
 | [c] => if c.1 = s then some c.2 else none
 | _ => none
def zH (c : Cel) : Bool := decide (c.wide = 1) && decide (oneB c.text = some 1) && decide (zq c.st = c.st)
def zJ (a b : Cel) : Bool := decide (a.wide = 2) && decide (oneB a.text = some 2) && decide (b.wide = 0) && decide (b.text = ⟨#[]⟩) && decide (a.st = b.st) && decide (zq a.st = a.st)
def rowR : List Cel -> Bool
 | [] => true
 | [a] => zH a
 | a :: b :: r => if zJ a b = true then rowR r else if zH a = true then rowR (b :: r) else false
def xd (a : Cel) (n : Option Cel) : Option Int -> Nat
 | none => 0
 | some w => if w < 1 \/ w ≠ a.wide \/ zq a.st ≠ a.st then 0 else if w = 2 /\ n ≠ some ⟨⟨#[]⟩, 0, a.st⟩ then 0 else w.toNat
def zM : List Cel -> Nat
 | [] => 0
 | a :: r => xd a r.head? (oneB a.text)
theorem jN (a : Cel) (r : List Cel) : zM (a :: r) = xd a r.head? (oneB a.text) := rfl
theorem Jd (a : Cel) (n : Option Cel) : xd a n none = 0 := rfl
theorem xe (a : Cel) (n : Option Cel) (w : Int) : xd a n (some w) = if w < 1 \/ w ≠ a.wide \/ zq a.st ≠ a.st then 0 else if w = 2 /\ n ≠ some ⟨⟨#[]⟩, 0, a.st⟩ then 0 else w.toNat := rfl
theorem wideC_le (l : List Int) : qA l = 0 \/ qA l = 1 \/ qA l = 2 := by
 unfold qA
 repeat' (first | (split; done) | split)
 all_goals omega
theorem clF_wide : ∀ f l, ∀ c ∈ clF f l, c.2 = 0 \/ c.2 = 1 \/ c.2 = 2 := by
 intro f
 induction f with
 | zero => intro l c h; cases h
 | succ f ih =>
  intro l c h
  unfold clF at h
  split at h
  ·cases h
  ·rcases List.mem_cons.1 h with rfl | h
   ·exact wideC_le _
   ·exact ih _ c h
theorem kx (s : ByteArray) (w : Int) (h : oneB s = some w) : w = 0 \/ w = 1 \/ w = 2 := by
 unfold oneB at h
 split at h
 ·rename_i c e
  split at h
  ·cases h
   have m : c ∈ zx s := by rw [e]; simp
   unfold zx at m
   obtain ⟨d, hd, rfl⟩ := List.mem_map.1 m
   exact clF_wide _ _ d hd
  ·cases h
 ·cases h
theorem Je (a b : Cel) (r : List Cel) (h : zJ a b = true) : zM (a :: b :: r) = 2 := by
 unfold zJ at h
 simp only [Bool.and_eq_true, decide_eq_true_eq] at h
 obtain ⟨⟨⟨⟨⟨h1, h2⟩, h3⟩, h4⟩, h5⟩, h6⟩ := h
 rw [jN, h2, xe]
 rw [if_neg (by rw [h1]; simp [h6]), if_neg ?_]
 ·rfl
 ·rintro ⟨_, q⟩
  apply q
  obtain ⟨bt, bw, bs⟩ := b
  simp only at h3 h4 h5
  rw [h3, h4, h5]
  rfl
theorem vW (a : Cel) (r : List Cel) (h : zH a = true) : zM (a :: r) = 1 := by
 unfold zH at h
 simp only [Bool.and_eq_true, decide_eq_true_eq] at h
 obtain ⟨⟨h1, h2⟩, h3⟩ := h
 rw [jN, h2, xe]
 rw [if_neg (by rw [h1]; simp [h3]), if_neg (by simp)]
 rfl
theorem vX (a : Cel) (r : List Cel) (h : zH a = false) (hp : ∀ b r', r = b :: r' -> zJ a b = false) : zM (a :: r) = 0 := by
 rw [jN]
 cases e : oneB a.text with
 | none => rfl
 | some w =>
  rw [xe]
  by_cases c : w < 1 \/ w ≠ a.wide \/ zq a.st ≠ a.st
  ·rw [if_pos c]
  ·rw [if_neg c]
   have hw := kx _ _ e
   simp only [not_or, Decidable.not_not] at c
   have w12 : w = 1 \/ w = 2 := by omega
   rcases w12 with rfl | rfl
   ·exfalso
    unfold zH at h
    rw [e, <- c.2.1, c.2.2] at h
    simp at h
   ·refine if_pos ⟨rfl, fun q => ?_⟩
    cases r with
    | nil => cases q
    | cons b r' =>
     have := hp b r' rfl
     simp only [List.head?_cons, Option.some.injEq] at q
     unfold zJ at this
     rw [e, <- c.2.1, c.2.2, q] at this
     simp at this
theorem unit_le (l : List Cel) : zM l <= 2 /\ (zM l = 2 -> 2 <= l.length) := by
 cases l with
 | nil => simp [zM]
 | cons a r =>
  rw [jN]
  cases e : oneB a.text with
  | none => simp [Jd]
  | some w =>
   have hw := kx _ _ e
   rw [xe]
   split
   ·simp
   ·split
    ·simp
    ·rename_i c
     refine ⟨by omega, fun z => ?_⟩
     have w2 : w = 2 := by omega
     cases r with
     | nil => exact absurd ⟨w2, by simp⟩ c
     | cons b r' => simp
def xF : Nat -> List Cel -> Bool
 | 0, _ => true
 | f + 1, l => if l = [] then true else decide (0 < zM l) && xF f (l.drop (max (zM l) 1))
theorem vY : ∀ f l, l.length <= f -> xF f l = rowR l := by
 intro f
 induction f with
 | zero =>
  intro l h
  have e : l = [] := List.length_eq_zero_iff.1 (by omega)
  subst e
  rfl
 | succ f ih =>
  intro l h
  unfold xF
  match l with
  | [] => rfl
  | [a] =>
   rw [if_neg (by simp)]
   cases hs : zH a with
   | true => rw [vW a [] hs]; simp [rowR, hs]; exact ih [] (by simp)
   | false => rw [vX a [] hs (by intro b r' e; cases e)]; simp [rowR, hs]
  | a :: b :: r =>
   rw [if_neg (by simp)]
   simp only [List.length_cons] at h
   unfold rowR
   cases hp : zJ a b with
   | true => rw [Je a b r hp]; simp; exact ih r (by omega)
   | false =>
    cases hs : zH a with
    | true => rw [vW a (b :: r) hs]; simp; exact ih (b :: r) (by simp; omega)
    | false => rw [vX a (b :: r) hs (by intro b' r' e; cases e; exact hp)]; simp
structure Scr where
 w : Int
 h : Int
 cells : List Cel
 x : Int
 y : Int
 shown : Bool
def qo (w h : Int) : Bool := decide (0 <= w) && decide (w <= 4096) && decide (0 <= h) && decide (h <= 4096) && decide (w * h <= 1048576)
def zP (s : Scr) (y : Nat) : List Cel := (s.cells.drop (y * s.w.toNat)).take s.w.toNat
def qK (s : Scr) : Bool := if s.shown = true then decide (0 <= s.x) && decide (s.x < s.w) && decide (0 <= s.y) && decide (s.y < s.h) else decide (s.x = 0) && decide (s.y = 0)
def zh (s : Scr) : Bool := qo s.w s.h && decide ((s.cells.length : Int) = s.w * s.h) && ((List.range s.h.toNat).all fun y => rowR (zP s y)) && qK s
end
section
open Go.RowKit Go.Sort
theorem xG {w : World} {base : Nat} {T : TypeId} {v : Value} {n : Nat} {xs : List Value} (h : w.ownsRow base T 2 v n xs) : (v = .slice none 0 0 /\ n = 0) \/ ∃ g c, v = .slice (some ⟨g, 0, none⟩) n c /\ base <= g /\ g < w.heap.size /\ n <= c /\ c <= maxLen /\ ∀ j u, xs[j]? = some u -> w.cell? ⟨g, j, none⟩ = some u := by
 rcases h.2 with a | ⟨g, cap, cur, h1, h2, h3, h4⟩
 ·exact Or.inl a
 ·refine Or.inr ⟨g, cap, h1, h2, (Array.getElem?_eq_some_iff.1 h3).1, h4.1, h4.2.1, fun j u hj => ?_⟩
  have q := h.cells (g := g) (by rw [h1]; rfl) j u hj
  have e : ((⟨g, 0, none⟩ : Addr).add j) = ⟨g, j, none⟩ := by
   unfold Addr.add
   split
   ·rename_i z; rw [z]
   ·simp
  rwa [e] at q
def oneV (s : ByteArray) : Option Int -> Value
 | some u => .tuple #[.agg #[.string s, .int .i64 u], .bool true]
 | none => .tuple #[.agg #[.string ⟨#[]⟩, .int .i64 0], .bool false]
set_option maxHeartbeats 8000000 in
set_option maxRecDepth 100000 in
theorem d_One (s : ByteArray) (hs : s.size <= 1000000000000) (w : World) : Calls Tryz.prog 94 #[.string s] w fun e w' => e = .returned (oneV s (oneB s)) /\ Below w.heap.size w w' := by
 have SP := Xk (xC s hs)
 have SL := jJ s
 have O0 : Hid (zx s = [] -> oneB s = none) := Xk (fun h => by unfold oneB; rw [h])
 have O1 : Hid (∀ c, zx s = [c] -> oneB s = if c.1 = s then some c.2 else none) := Xk (fun c h => by unfold oneB; rw [h])
 have O2 : Hid (∀ c d r, zx s = c :: d :: r -> oneB s = none) := Xk (fun c d r h => by unfold oneB; rw [h])
 generalize oneB s = o at *
 generalize zx s = L at *
 go_enter Tryz.func94, Tryz.ntmps94
 go_wp2_with fail
 refine (SP.out _).mono ?_; rintro e w1 ⟨v, rfl, ho, hb⟩
 have z0 : w1.cell? ⟨w.heap.size, 0, none⟩ = some (.string ⟨#[]⟩) := (hb.cell (p := ⟨w.heap.size, 0, none⟩) (by simp)).trans (by simp [go_sem])
 have z1 : w1.cell? ⟨w.heap.size, 1, none⟩ = some (.int .i64 0) := (hb.cell (p := ⟨w.heap.size, 1, none⟩) (by simp)).trans (by simp [go_sem])
 have f0 : w1.frozen? ⟨w.heap.size, 0, none⟩ = false := (hb.frozen (p := ⟨w.heap.size, 0, none⟩) (by simp)).trans (by simp [go_sem])
 have f1 : w1.frozen? ⟨w.heap.size, 1, none⟩ = false := (hb.frozen (p := ⟨w.heap.size, 1, none⟩) (by simp)).trans (by simp [go_sem])
 have HB := Xk (show Below w.heap.size w w1 from zk (by go_grown) (by simp) hb)
 have FN := xG ho
 clear ho hb
 rcases L with _ | ⟨⟨ct, cw⟩, _ | ⟨d, r⟩⟩
 ·have R := Xk (O0.out rfl)
  rcases FN with ⟨rfl, _⟩ | ⟨g, c, rfl, _⟩
  all_goals
   go_wp2_with fail
   refine bodyPost_ret (v := .tuple #[.agg #[.string ⟨#[]⟩, .int .i64 0], .bool false]) (by simp [results, Tryz.results94, go_sem, z0, z1]) rfl ⟨by rw [R.out]; rfl, ?_⟩
   exact (HB.out.setCell Xm _).setCell Xm _
 ·have RR := Xk (O1.out _ rfl)
  rcases FN with ⟨_, h⟩ | ⟨g, c, rfl, hg0, hg1, _, _, hc⟩
  ·cases h
  ·have c0 : w1.cell? ⟨g, 0, none⟩ = some (.string ct) := hc 0 _ rfl
   have c1 : w1.cell? ⟨g, 1, none⟩ = some (.int .i64 cw) := hc 1 _ rfl
   have ne : w.heap.size ≠ g := by simp at hg0; omega
   simp only [List.length_cons, List.length_nil]
   by_cases e : ct = s
   ·have q : (ct.toList == s.toList) = true := by rw [xy]; exact decide_eq_true e
    have R : Hid (o = some cw) := Xk (by rw [RR.out]; exact if_pos e)
    go_wp2_with fail
    refine bodyPost_ret (v := .tuple #[.agg #[.string s, .int .i64 cw], .bool true]) (by simp [results, Tryz.results94, go_sem, z0, z1, e]) rfl ⟨by rw [R.out]; rfl, ?_⟩
    exact (HB.out.setCell Xm _).setCell Xm _
   ·have q : (ct.toList == s.toList) = false := by rw [xy]; exact decide_eq_false e
    have R : Hid (o = none) := Xk (by rw [RR.out]; exact if_neg e)
    go_wp2_with fail
    refine bodyPost_ret (v := .tuple #[.agg #[.string ⟨#[]⟩, .int .i64 0], .bool false]) (by simp [results, Tryz.results94, go_sem, z0, z1]) rfl ⟨by rw [R.out]; rfl, ?_⟩
    exact (HB.out.setCell Xm _).setCell Xm _
 ·have R := Xk (O2.out _ _ _ rfl)
  rcases FN with ⟨_, h⟩ | ⟨g, c, rfl, hg0, hg1, _, _, hc⟩
  ·cases h
  ·obtain ⟨n, hn⟩ : ∃ n, n = (((ct, cw) :: d :: r).length) := ⟨_, rfl⟩
   rw [<- hn]
   have q : ((n : Int) == 1) = false := by simp; rw [hn]; simp; omega
   have q2 : ((n : Int) != 1) = true := by simp; rw [hn]; simp; omega
   clear hn SL hc
   go_wp2_with fail
   refine bodyPost_ret (v := .tuple #[.agg #[.string ⟨#[]⟩, .int .i64 0], .bool false]) (by simp [results, Tryz.results94, go_sem, z0, z1]) rfl ⟨by rw [R.out]; rfl, ?_⟩
   exact (HB.out.setCell Xm _).setCell Xm _
end
section
open Go Go.RowKit Go.Sort
section
theorem jl {P : Program} {w : World} {ops : Array Oper} {rest : List Oper} {o : Oper} {a : Act} {Q : Exit -> Act -> World -> Prop} (hgd : o.guard = none) (s x : Operand) (t u : TypeId)
  (ho : o.op = .call { callee := .builtin .append, args := #[s, x], argTypes := #[t, u] }) (vs vx v' : Value) (w' : World) (hs : a.eval s = vs) (hx : a.eval x = vx)
  (hrun : (Builtin.append_ #[t, u] o.type #[vs, vx]).run P w = .ok v' w') (h : wpList P ops Q rest (a.put o.dst v') w') : wpList P ops Q (o :: rest) a w := by
 refine wpList_plain hgd fun K hK => ?_
 unfold Oper.wp
 simp [execOp, ho, resolve, invoke, builtin, hs, hx, hrun, Result.andThen]
 exact hK _ _ h
def cB (c : List Int × Int) : ByteArray × Int := (barr c.1, c.2)
theorem app_cl {w : World} {LO n c : Nat} {A : Option Addr} {xs : List Value} (o : w.ownsRow LO 109 2 (.slice A n c) n xs) (s : ByteArray) (u : Int) (hLO : LO <= w.heap.size) (len : n <= 1000000000000) :
  ∃ A' c' w3, (Builtin.append_ #[106, 106] 106 #[.slice A n c, .slice (some ⟨w.heap.size, 0, none⟩) 1 1]).run Tryz.prog (w.alloc (.cells #[.string s, .int .i64 u] 109)) = .ok (.slice A' (n + 1) c') w3 /\
   w3.ownsRow LO 109 2 (.slice A' (n + 1) c') (n + 1) (xs ++ clV (s, u)) /\ Below LO w w3 := by
 obtain ⟨i0, hi0, hzz⟩ := Option.map_eq_some_iff.1 infoC
 simp only [Prod.mk.injEq] at hzz
 obtain ⟨hz0, hz1, hz2⟩ := hzz
 have bu : Below w.heap.size w (w.alloc (.cells #[.string s, .int .i64 u] 109)) := (Below.refl _ w).alloc Xm _
 have o1 : (w.alloc (.cells #[.string s, .int .i64 u] 109)).ownsRow LO 109 2 (.slice A n c) n xs := o.alloc _
 obtain ⟨v', w3, r1, r2, r3, r4⟩ := run_append_own (P := Tryz.prog) (w.alloc (.cells #[.string s, .int .i64 u] 109)) LO 106 106 109 i0 (.agg #[.string ⟨#[]⟩, .int .i64 0]) 2 24 Tryz.underlying106 hi0 hz0 hz1 hz2 rfl (by decide) _ n xs o1 ⟨w.heap.size, 0, none⟩ 1 1 [.string s, .int .i64 u] rfl (qj w [.string s, .int .i64 u] _) (by intro x hx; simp at hx; rcases hx with rfl | rfl <;> rfl) (by unfold maxLen; omega) (by omega) (Nat.le_trans hLO bu.size)
 rcases xG r2 with ⟨_, z⟩ | ⟨g, c', e, _⟩
 ·omega
 ·subst e
  exact ⟨_, c', w3, r1, r2, (bu.mono hLO).grown r3 (Nat.le_trans hLO bu.size) (fun k hk => (o1.lt k hk).1)⟩
set_option maxHeartbeats 32000000 in
set_option maxRecDepth 100000 in
theorem Jf (A : Option Addr) (c : Nat) (l : List Int) (hl : l.length <= 35184372000000) (hc : l.length <= c) (hr : ∀ r ∈ l, 0 <= r /\ r < 2097152) (w : World) (S : Sees w w.heap.size A (rns l)) (hl2 : l.length <= 900000000000) :
  Calls Tryz.prog 108 #[.slice A l.length c] w fun e w' => ∃ v, e = .returned v /\ w'.ownsRow w.heap.size 109 2 v ((clL l).map cB).length (cls ((clL l).map cB)) /\ Below w.heap.size w w' := by
 have HS := Xk S
 have HR := Xk hr
 obtain ⟨n, hn⟩ : ∃ n, n = l.length := ⟨_, rfl⟩
 have HN := Xk hn
 rw [<- hn] at hl hl2 hc ⊢
 clear S hr hn
 go_enter Tryz.func108, Tryz.ntmps108
 go_wp2_with fail
 go_loopw [3, 4] (fun s3 s4 wr => ∃ (k m : Nat) (A' : Option Addr) (c' : Nat) (P : List (ByteArray × Int)), k <= n /\ m <= k /\ s3 = .slice A' m c' /\ s4 = .int .i64 (k : Int) /\ Hid (P.length = m) /\ Hid (P ++ (clL (l.drop k)).map cB = (clL l).map cB) /\ Hid (wr.ownsRow w.heap.size 109 2 (.slice A' m c') m (cls P)) /\ Hid (Below w.heap.size w wr)) (fun _ s4 _ => n - (intOf s4).toNat)
 case atStart => exact ⟨0, 0, none, 0, [], Nat.zero_le _, Xm, rfl, rfl, Xk rfl, Xk (by rw [List.drop_zero]; rfl), Xk (World.ownsRow_nil _ _ _ _), Xk (Below.refl _ _)⟩
 case round =>
  obtain ⟨k, m, A', c', P, hk, hm, rfl, rfl, hp, hI, ho, hb⟩ := hrel
  by_cases lt : k < n
  ·have kl : k < l.length := by rw [<- HN.out]; exact lt
   have dne : l.drop k ≠ [] := fun z => by have := congrArg List.length z; rw [List.length_drop] at this; simp at this; omega
   obtain ⟨ad, rfl, hab, _⟩ := qI HS.out 0 (by omega)
   have FB := jI (l.drop k) dne
   rw [List.length_drop, <- HN.out] at FB
   have SK : Sees wr wr.heap.size (some (ad.add k)) (rns (l.drop k)) := (((HS.out.drop (k := k)).below hb.out Xm).more hb.out.size)
   have FI := QV (some (ad.add k)) (c - k) (l.drop k) dne (by rw [List.length_drop, <- HN.out]; omega) wr SK
   rw [List.length_drop, <- HN.out] at FI
   have CC := x9 (l.drop k) dne
   have NX := hI.out
   rw [CC, List.drop_drop] at NX
   obtain ⟨d, hd⟩ : ∃ d, d = zl (l.drop k) := ⟨_, rfl⟩
   rw [<- hd] at FB FI NX
   have tl : ((l.drop k).take d).length = d := by rw [List.length_take, List.length_drop, <- HN.out]; omega
   have tne : (l.drop k).take d ≠ [] := fun z => by rw [z] at tl; simp at tl; omega
   have TX := Xk (fun (W : World) (hB : Below wr.heap.size wr W) => by
    have := Q7 (some (ad.add k)) (c - k) ((l.drop k).take d) (by rw [tl]; omega) (fun r m => HR.out r (List.mem_of_mem_drop (List.mem_of_mem_take m))) W (((SK.take (k := d)).below hB Xm).more hB.size)
    rw [tl] at this
    exact this)
   have WD := Xk (fun (W : World) (hB : Below wr.heap.size wr W) => by
    have := ref_wide (some (ad.add k)) (c - k) ((l.drop k).take d) tne (by rw [tl]; omega) W (((SK.take (k := d)).below hB Xm).more hB.size)
    rw [tl] at this
    exact this)
   have NX := Xk NX
   have FI := Xk FI
   generalize zi ((l.drop k).take d) = tx at *
   generalize qA ((l.drop k).take d) = wd at *
   have FB1 := FB.1
   have FB2 := FB.2.1
   have ck : ¬ c = k := by omega
   have p0 : (0 : Int) <= (k : Int) := by omega
   have p1 : (k : Int) <= (n : Int) := by omega
   have p5 : (k : Int) < (n : Int) := by omega
   have pn : (k : Int).toNat = k := by omega
   have pd := Xl ((k : Int) + (d : Int)) (by omega)
   have p2 : (k : Int) <= (k : Int) + (d : Int) := by omega
   have p3 : (k : Int) + (d : Int) <= (c : Int) := by omega
   have pt : ((k : Int) + (d : Int)).toNat = k + d := by omega
   have pe : k + d - k = d := by omega
   have ptn : ((n : Int)).toNat = n := by omega
   clear SK dne CC tl tne hI FB hd
   go_wp2_with fail
   refine FI.out.mono ?_; rintro e w1 ⟨rfl, hb1⟩
   have TX := Xk (TX.out w1 hb1)
   have HB1 := Xk hb1
   clear FI hb1
   go_wp2_with fail
   refine TX.out.mono ?_; rintro e w2 ⟨rfl, hb2⟩
   have WD := Xk (WD.out w2 (HB1.out.trans (hb2.mono HB1.out.size)))
   have HB2 := Xk (HB1.out.trans (hb2.mono HB1.out.size))
   clear TX hb2 HB1
   go_wp2_with fail
   refine WD.out.mono ?_; rintro e w3 ⟨rfl, hb3⟩
   have B3 := HB2.out.trans (hb3.mono HB2.out.size)
   have BW := hb.out.trans (B3.mono hb.out.size)
   have o3 : w3.ownsRow w.heap.size 109 2 (.slice A' m c') m (cls P) := by
    have o := ho.out
    rcases o.2 with a | ⟨g, cap, cur, e1, e2, e3, e4⟩
    ·exact ⟨o.1, Or.inl a⟩
    ·exact ⟨o.1, Or.inr ⟨g, cap, cur, e1, e2, (B3.block g (Array.getElem?_eq_some_iff.1 e3).1).trans e3, e4⟩⟩
   obtain ⟨A2, c2, w4, R, o4, b4⟩ := app_cl o3 (barr tx) wd BW.size (by omega)
   have HO4 := Xk o4
   have HB4 := Xk (BW.trans b4)
   have NX := Xk (show (P ++ [(barr tx, wd)]) ++ (clL (l.drop (k + d))).map cB = (clL l).map cB by
    rw [<- NX.out, List.append_assoc]
    rfl)
   have NC := Xk (show cls (P ++ [(barr tx, wd)]) = cls P ++ clV (barr tx, wd) by rw [vJ]; simp [cls])
   clear WD hb3 B3 BW o3 o4 b4 HB2 ho hb
   go_wp2_with (first | (at_builtin; refine jl rfl (.tmp 30) (.tmp 34) 106 106 rfl _ _ _ _ rfl rfl R ?_) | fail)
   go_roundw
   case rel => exact ⟨k + d, m + 1, A2, c2, P ++ [(barr tx, wd)], by omega, by omega, rfl, by go_num, Xk (by rw [List.length_append, hp.out]; rfl), NX, by rw [NC.out]; exact HO4, HB4⟩
   case measure => simp [intOf]; omega
  ·have e : k = n := by omega
   subst e
   have p5 : ¬ (k : Int) < (k : Int) := by omega
   have FIN := Xk (show P = (clL l).map cB by
    rw [<- hI.out, HN.out, List.drop_length]
    simp [x8])
   have OO := Xk (show wr.ownsRow w.heap.size 109 2 (.slice A' m c') ((clL l).map cB).length (cls ((clL l).map cB)) by rw [<- FIN.out, hp.out]; exact ho.out)
   clear ho hI
   go_wp2_with fail
   go_ret
   exact ⟨.slice A' m c', rfl, by have o := OO.out; rw [List.length_map] at o; exact o, hb.out⟩
set_option maxHeartbeats 8000000 in
set_option maxRecDepth 100000 in
theorem Jg (s : ByteArray) (hs : s.size <= 900000000000) (w : World) : Calls Tryz.prog 87 #[.string s] w fun e w' => ∃ v, e = .returned v /\ w'.ownsRow w.heap.size 109 2 v (zx s).length (cls (zx s)) /\ Below w.heap.size w w' := by
 have RN := Xk (QZ s (by omega) w)
 have RL := xx _ s rfl
 have CL := Xk (fun (A : Option Addr) (c : Nat) (W : World) (hc : (zr s).length <= c) (S : Sees W W.heap.size A (rns (zr s))) => Jf A c (zr s) (by omega) hc (vh _ s rfl) W S (by omega))
 have SB : Hid (zx s = (clL (zr s)).map cB) := Xk rfl
 generalize zx s = L at *
 generalize (clL (zr s)).map cB = L2 at *
 obtain ⟨n, hn⟩ : ∃ n, n = (zr s).length := ⟨_, rfl⟩
 rw [<- hn] at RN CL
 clear hn RL
 go_enter Tryz.func87, Tryz.ntmps87
 go_wp2_with fail
 refine RN.out.mono ?_; rintro e w1 ⟨v, rfl, ho, hb⟩
 obtain ⟨A, c, e⟩ := qX ho
 subst e
 have cap : n <= c := by
  rcases ho.2 with ⟨z, n0⟩ | ⟨g, cap, cur, z, _, _, hn, _⟩
  ·omega
  ·injection z with z1 z2 z3; omega
 have SE : Sees w1 w1.heap.size A (rns (zr s)) := fun hne => by
  rcases ho.2 with ⟨z, n0⟩ | ⟨g, cap, cur, z, hb2, hg, hn, _, hs2, ht⟩
  ·exact absurd (List.eq_nil_of_length_eq_zero (by rw [ho.1, n0, Nat.zero_mul])) hne
  ·injection z with z1 z2 z3
   subst z1
   exact ⟨_, rfl, (Array.getElem?_eq_some_iff.1 hg).1, fun j u hj => ho.cells (g := g) rfl j u hj⟩
 have CC := Xk (CL.out A c w1 cap SE)
 have HB := Xk hb
 clear RN CL ho cap SE hb
 go_wp2_with fail
 refine CC.out.mono ?_; rintro e w2 ⟨v, rfl, o2, b2⟩
 have HO := Xk (qR o2 HB.out.size)
 have HB2 := Xk (HB.out.trans (b2.mono HB.out.size))
 clear CC o2 b2
 go_wp2_with fail
 go_ret
 exact ⟨v, rfl, by rw [SB.out]; exact HO.out, HB2.out⟩
set_option maxHeartbeats 8000000 in
set_option maxRecDepth 100000 in
theorem vZ (s : ByteArray) (hs : s.size <= 900000000000) (w : World) : Calls Tryz.prog 72 #[.string s] w fun e w' => e = .returned (oneV s (oneB s)) /\ Below w.heap.size w w' := by
 have SP := Xk (Jg s hs)
 have SL := jJ s
 have O0 : Hid (zx s = [] -> oneB s = none) := Xk (fun h => by unfold oneB; rw [h])
 have O1 : Hid (∀ c, zx s = [c] -> oneB s = if c.1 = s then some c.2 else none) := Xk (fun c h => by unfold oneB; rw [h])
 have O2 : Hid (∀ c d r, zx s = c :: d :: r -> oneB s = none) := Xk (fun c d r h => by unfold oneB; rw [h])
 generalize oneB s = o at *
 generalize zx s = L at *
 go_enter Tryz.func72, Tryz.ntmps72
 go_wp2_with fail
 refine (SP.out _).mono ?_; rintro e w1 ⟨v, rfl, ho, hb⟩
 have z0 : w1.cell? ⟨w.heap.size, 0, none⟩ = some (.string ⟨#[]⟩) := (hb.cell (p := ⟨w.heap.size, 0, none⟩) (by simp)).trans (by simp [go_sem])
 have z1 : w1.cell? ⟨w.heap.size, 1, none⟩ = some (.int .i64 0) := (hb.cell (p := ⟨w.heap.size, 1, none⟩) (by simp)).trans (by simp [go_sem])
 have f0 : w1.frozen? ⟨w.heap.size, 0, none⟩ = false := (hb.frozen (p := ⟨w.heap.size, 0, none⟩) (by simp)).trans (by simp [go_sem])
 have f1 : w1.frozen? ⟨w.heap.size, 1, none⟩ = false := (hb.frozen (p := ⟨w.heap.size, 1, none⟩) (by simp)).trans (by simp [go_sem])
 have HB := Xk (show Below w.heap.size w w1 from zk (by go_grown) (by simp) hb)
 have FN := xG ho
 clear ho hb
 rcases L with _ | ⟨⟨ct, cw⟩, _ | ⟨d, r⟩⟩
 ·have R := Xk (O0.out rfl)
  rcases FN with ⟨rfl, _⟩ | ⟨g, c, rfl, _⟩
  all_goals
   go_wp2_with fail
   refine bodyPost_ret (v := .tuple #[.agg #[.string ⟨#[]⟩, .int .i64 0], .bool false]) (by simp [results, Tryz.results72, go_sem, z0, z1]) rfl ⟨by rw [R.out]; rfl, ?_⟩
   exact (HB.out.setCell Xm _).setCell Xm _
 ·have RR := Xk (O1.out _ rfl)
  rcases FN with ⟨_, h⟩ | ⟨g, c, rfl, hg0, hg1, _, _, hc⟩
  ·cases h
  ·have c0 : w1.cell? ⟨g, 0, none⟩ = some (.string ct) := hc 0 _ rfl
   have c1 : w1.cell? ⟨g, 1, none⟩ = some (.int .i64 cw) := hc 1 _ rfl
   have ne : w.heap.size ≠ g := by simp at hg0; omega
   simp only [List.length_cons, List.length_nil]
   by_cases e : ct = s
   ·have q : (ct.toList == s.toList) = true := by rw [xy]; exact decide_eq_true e
    have R : Hid (o = some cw) := Xk (by rw [RR.out]; exact if_pos e)
    go_wp2_with fail
    refine bodyPost_ret (v := .tuple #[.agg #[.string s, .int .i64 cw], .bool true]) (by simp [results, Tryz.results72, go_sem, z0, z1, e]) rfl ⟨by rw [R.out]; rfl, ?_⟩
    exact (HB.out.setCell Xm _).setCell Xm _
   ·have q : (ct.toList == s.toList) = false := by rw [xy]; exact decide_eq_false e
    have R : Hid (o = none) := Xk (by rw [RR.out]; exact if_neg e)
    go_wp2_with fail
    refine bodyPost_ret (v := .tuple #[.agg #[.string ⟨#[]⟩, .int .i64 0], .bool false]) (by simp [results, Tryz.results72, go_sem, z0, z1]) rfl ⟨by rw [R.out]; rfl, ?_⟩
    exact (HB.out.setCell Xm _).setCell Xm _
 ·have R := Xk (O2.out _ _ _ rfl)
  rcases FN with ⟨_, h⟩ | ⟨g, c, rfl, hg0, hg1, _, _, hc⟩
  ·cases h
  ·obtain ⟨n, hn⟩ : ∃ n, n = (((ct, cw) :: d :: r).length) := ⟨_, rfl⟩
   rw [<- hn]
   have q : ((n : Int) == 1) = false := by simp; rw [hn]; simp; omega
   have q2 : ((n : Int) != 1) = true := by simp; rw [hn]; simp; omega
   clear hn SL hc
   go_wp2_with fail
   refine bodyPost_ret (v := .tuple #[.agg #[.string ⟨#[]⟩, .int .i64 0], .bool false]) (by simp [results, Tryz.results72, go_sem, z0, z1]) rfl ⟨by rw [R.out]; rfl, ?_⟩
   exact (HB.out.setCell Xm _).setCell Xm _
end
end
section
open Go.RowKit
def hasC (c : Int) : Bool := decide ((256 <= c /\ c < 512) \/ (16777216 <= c /\ c < 33554432))
def chR (c : Int) : Int := if 16777216 <= c /\ c < 33554432 then c / 65536 % 256 else if 256 <= c /\ c < 512 then pr (c - 256) else 0
def chG (c : Int) : Int := if 16777216 <= c /\ c < 33554432 then c / 256 % 256 else if 256 <= c /\ c < 512 then pg (c - 256) else 0
def chB (c : Int) : Int := if 16777216 <= c /\ c < 33554432 then c % 256 else if 256 <= c /\ c < 512 then pb (c - 256) else 0
theorem v7 (c : Int) : Gives 63 #[.int .i32 c] (.tuple #[arr3 (chR c) (chG c) (chB c), .bool (hasC c)]) := by
 intro w
 by_cases h : 16777216 <= c /\ c < 33554432
 ·have hc : cnt c = c := by unfold cnt; rw [if_pos]; unfold zw; rw [decide_eq_true_iff]; omega
  have H : Hid (hasC c = true /\ chR c = c / 65536 % 256 /\ chG c = c / 256 % 256 /\ chB c = c % 256) := by
   unfold Hid hasC chR chG chB
   rw [if_pos h, if_pos h, if_pos h, decide_eq_true_iff]
   exact ⟨Or.inr h, rfl, rfl, rfl⟩
  obtain ⟨ha, hb⟩ := h
  go_enter Tryz.func63, Tryz.ntmps63
  go_wp2_with (go_at_call 62; refine (jw _ _).mono ?_; rintro e w' ⟨rfl, rfl⟩; rw [hc])
  refine bodyPost_ret (v := .tuple #[arr3 (c / 65536 % 256) (c / 256 % 256) (c % 256), .bool true]) (by simp [arr3, results, Tryz.results63, go_sem]) rfl ⟨by rw [H.out.1, H.out.2.1, H.out.2.2.1, H.out.2.2.2], by go_grown⟩
 by_cases h2 : 256 <= c /\ c < 512
 ·have hc : cnt c = c := by unfold cnt; rw [if_pos]; unfold zw; rw [decide_eq_true_iff]; omega
  have H : Hid (hasC c = true /\ chR c = pr (c - 256) /\ chG c = pg (c - 256) /\ chB c = pb (c - 256)) := by
   unfold Hid hasC chR chG chB
   rw [if_neg h, if_neg h, if_neg h, if_pos h2, if_pos h2, if_pos h2, decide_eq_true_iff]
   exact ⟨Or.inl h2, rfl, rfl, rfl⟩
  obtain ⟨ha, hb⟩ := h2
  clear h
  go_enter Tryz.func63, Tryz.ntmps63
  go_wp2_with (first | (go_at_call 62; refine (jw _ _).mono ?_; rintro e w' ⟨rfl, rfl⟩; rw [hc]) | (go_at_call 79; refine (vL _ (by omega) (by omega) _).mono ?_; rintro e w1 ⟨rfl, hb1⟩; obtain ⟨hcl, hfz, hz⟩ := qG hb1; simp only [World.size_alloc] at hcl hfz hz))
  have hb2 : Below w.heap.size w w1 := zk ((Below.refl _ _).alloc Xm _) (by simp) hb1
  exact bodyPost_ret (v := .tuple #[arr3 (pr (c - 256)) (pg (c - 256)) (pb (c - 256)), .bool true]) (by simp [arr3, results, Tryz.results63, go_sem, hcl]) rfl ⟨by rw [H.out.1, H.out.2.1, H.out.2.2.1, H.out.2.2.2], by go_grown⟩
 ·have hc : cnt c = 0 \/ cnt c = 1 := by
   unfold cnt
   by_cases r : zw c = true
   ·rw [if_pos r]; unfold zw at r; rw [decide_eq_true_iff] at r; omega
   ·rw [if_neg r]; exact Or.inl rfl
  have H : Hid (hasC c = false /\ chR c = 0 /\ chG c = 0 /\ chB c = 0) := by
   unfold Hid hasC chR chG chB
   rw [if_neg h, if_neg h, if_neg h, if_neg h2, if_neg h2, if_neg h2, decide_eq_false_iff_not]
   exact ⟨by rintro (x | x) <;> contradiction, rfl, rfl, rfl⟩
  clear h h2
  rcases hc with hc | hc
  all_goals
   go_enter Tryz.func63, Tryz.ntmps63
   go_wp2_with (go_at_call 62; refine (jw _ _).mono ?_; rintro e w' ⟨rfl, rfl⟩; rw [hc])
   refine bodyPost_ret (v := .tuple #[arr3 0 0 0, .bool false]) (by simp [arr3, results, Tryz.results63, go_sem]) rfl ⟨by rw [H.out.1, H.out.2.1, H.out.2.2.1, H.out.2.2.2], by go_grown⟩
end
section
open Go.RowKit
def qa (c : Int) : Int := if c = 1 then 1 else if 256 <= c /\ c < 512 then 2 else if 16777216 <= c /\ c < 33554432 then 3 else 0
def jz (c : Int) : Int := if 256 <= c /\ c < 512 then c - 256 else if 16777216 <= c /\ c < 33554432 then c - 16777216 else 0
theorem jA (c : Int) : (c = 1 /\ qa c = 1 /\ jz c = 0) \/ (256 <= c /\ c < 512 /\ qa c = 2 /\ jz c = c - 256) \/ (16777216 <= c /\ c < 33554432 /\ qa c = 3 /\ jz c = c - 16777216) \/ (c ≠ 1 /\ ¬ (256 <= c /\ c < 512) /\ ¬ (16777216 <= c /\ c < 33554432) /\ qa c = 0 /\ jz c = 0) := by
 unfold qa jz
 by_cases h1 : c = 1
 ·left; subst h1; exact ⟨rfl, by simp, by simp⟩
 by_cases h2 : 256 <= c /\ c < 512
 ·right; left; exact ⟨h2.1, h2.2, by rw [if_neg h1, if_pos h2], by rw [if_pos h2]⟩
 by_cases h3 : 16777216 <= c /\ c < 33554432
 ·right; right; left; exact ⟨h3.1, h3.2, by rw [if_neg h1, if_neg h2, if_pos h3], by rw [if_neg h2, if_pos h3]⟩
 ·right; right; right; exact ⟨h1, h2, h3, by rw [if_neg h1, if_neg h2, if_neg h3], by rw [if_neg h2, if_neg h3]⟩
theorem qr (c : Int) (hl : -2147483648 <= c) (hh : c <= 2147483647) : Tells 90 #[.int .i32 c] (.tuple #[.int .i64 (qa c), .int .i64 (jz c)]) := by
 intro w
 rcases jA c with ⟨h, hk, hn⟩ | ⟨h, h', hk, hn⟩ | ⟨h, h', hk, hn⟩ | ⟨h, h2, h3, hk, hn⟩
 ·have H := Xk (And.intro hk hn); clear hk hn
  subst h
  go_enter Tryz.func90, Tryz.ntmps90
  go_wp2
  go_ret2
  exact ⟨by rw [H.out.1, H.out.2]; rfl, rfl⟩
 ·have H := Xk (And.intro hk hn); clear hk hn
  have g1 : (c == 1) = false := by simp; omega
  have g2 : decide (c <= 511) = true := by simp; omega
  go_enter Tryz.func90, Tryz.ntmps90
  go_wp2
  go_ret2
  exact ⟨by rw [H.out.1, H.out.2]; rfl, rfl⟩
 ·have H := Xk (And.intro hk hn); clear hk hn
  have g1 : (c == 1) = false := by simp; omega
  have g2 : decide (c <= 511) = false := by simp; omega
  have g3 : decide (c <= 33554431) = true := by simp; omega
  go_enter Tryz.func90, Tryz.ntmps90
  go_wp2
  go_ret2
  exact ⟨by rw [H.out.1, H.out.2]; rfl, rfl⟩
 ·have H := Xk (And.intro hk hn); clear hk hn
  have g1 : (c == 1) = false := by simp; omega
  by_cases a : 256 <= c
  ·have g2 : decide (c <= 511) = false := by simp; omega
   by_cases b : 16777216 <= c
   ·have g3 : decide (c <= 33554431) = false := by simp; omega
    clear h2 h3
    go_enter Tryz.func90, Tryz.ntmps90
    go_wp2
    go_ret2
    exact ⟨by rw [H.out.1, H.out.2]; rfl, rfl⟩
   ·clear h2 h3
    go_enter Tryz.func90, Tryz.ntmps90
    go_wp2
    go_ret2
    exact ⟨by rw [H.out.1, H.out.2]; rfl, rfl⟩
  ·clear h2 h3
   go_enter Tryz.func90, Tryz.ntmps90
   go_wp2
   go_ret2
   exact ⟨by rw [H.out.1, H.out.2]; rfl, rfl⟩
theorem xH (c : Int) (hl : -2147483648 <= c) (hh : c <= 2147483647) : Tells 91 #[.int .i32 c] (.int .i32 (cnt c)) := by
 intro w
 have hc : cnt c = if qa c = 0 then 0 else c := by
  unfold cnt zw
  rcases jA c with ⟨h, hk, hn⟩ | ⟨h, h', hk, hn⟩ | ⟨h, h', hk, hn⟩ | ⟨h, h2, h3, hk, hn⟩
  ·rw [if_pos (by rw [decide_eq_true_iff]; omega), if_neg (by omega)]
  ·rw [if_pos (by rw [decide_eq_true_iff]; omega), if_neg (by omega)]
  ·rw [if_pos (by rw [decide_eq_true_iff]; omega), if_neg (by omega)]
  ·rw [if_pos hk]
   by_cases z : c = 0
   ·rw [if_pos (by rw [decide_eq_true_iff]; omega), z]
   ·rw [if_neg (by rw [decide_eq_true_iff]; omega)]
 have H := Xk hc; clear hc
 by_cases k : qa c = 0
 all_goals
  have H2 := Xk k
  first | (have g : (qa c == 0) = true := by simp [k]) | (have g : (qa c == 0) = false := by simp [k])
  clear k
  go_enter Tryz.func91, Tryz.ntmps91
  go_wp2_with (go_at_call 90; refine (qr _ hl hh _).mono ?_; rintro e w' ⟨rfl, rfl⟩)
  go_ret
  exact ⟨zC (by rw [H.out]; first | rw [if_pos H2.out] | rw [if_neg H2.out]), rfl⟩
theorem v8 (n f lo hi : Int) (h0 : 0 <= n) (h1 : n < 16) (hf : 1 <= f) : Tells 130 #[.int .i64 n, .int .i64 f, .int .i64 lo, .int .i64 hi] (.int .i64 (zI (n / f % 2) lo hi)) := by
 intro w
 by_cases k : n / f % 2 = 1
 all_goals
  have H2 := Xk k
  first | (have g : (n / f % 2 == 1) = true := by simp [k]) | (have g : (n / f % 2 == 1) = false := by simp [k])
  have h2 : 0 <= n / f := Int.ediv_nonneg h0 (by omega)
  have h3 : n / f <= n := Int.ediv_le_self _ h0
  clear k
  go_enter Tryz.func130, Tryz.ntmps130
  go_wp2
  go_ret
  exact ⟨zC (by unfold zI; first | rw [if_pos H2.out] | rw [if_neg H2.out]), rfl⟩
theorem cube_six (n : Int) (h0 : 0 <= n) (h1 : n <= 5) : n = 0 \/ n = 1 \/ n = 2 \/ n = 3 \/ n = 4 \/ n = 5 := by omega
set_option maxHeartbeats 1000000 in
theorem ky (n : Int) (h0 : 0 <= n) (h1 : n <= 5) : Gives 131 #[.int .i64 n] (.int .i64 (lev n)) := by
 intro w
 have := cube_six n h0 h1
 clear h0 h1
 rcases this with rfl | rfl | rfl | rfl | rfl | rfl
 all_goals
  go_enter Tryz.func131, Tryz.ntmps131
  go_wp2
  go_ret
  exact ⟨rfl, by go_grown⟩
abbrev tri (a b c : Int) : Value := .agg #[.int .i64 a, .int .i64 b, .int .i64 c]
set_option maxHeartbeats 1000000 in
theorem Za (n : Int) (h0 : 0 <= n) (h1 : n < 256) : Gives 109 #[.int .i64 n] (tri (pr n) (pg n) (pb n)) := by
 intro w
 by_cases c : n < 8
 ·have H : Hid (pr n = zI (n / 1 % 2) 0 170 /\ pg n = zI (n / 2 % 2) 0 170 /\ pb n = zI (n / 4 % 2) 0 170) := by
   unfold Hid pr pg pb
   rw [if_pos c, if_pos c, if_pos c, Int.ediv_one]
   exact ⟨rfl, rfl, rfl⟩
  go_enter Tryz.func109, Tryz.ntmps109
  go_wp2_with (go_at_call 130; refine (v8 _ _ _ _ (by omega) (by omega) (by omega) _).mono ?_; rintro e w' ⟨rfl, rfl⟩)
  exact bodyPost_ret (v := tri (zI (n / 1 % 2) 0 170) (zI (n / 2 % 2) 0 170) (zI (n / 4 % 2) 0 170)) (by simp [results, Tryz.results109, go_sem]) rfl ⟨by rw [H.out.1, H.out.2.1, H.out.2.2], by go_grown⟩
 by_cases c1 : n < 16
 ·have H : Hid (pr n = zI (n / 1 % 2) 85 255 /\ pg n = zI (n / 2 % 2) 85 255 /\ pb n = zI (n / 4 % 2) 85 255) := by
   unfold Hid pr pg pb
   rw [if_neg c, if_neg c, if_neg c, if_pos c1, if_pos c1, if_pos c1, Int.ediv_one]
   exact ⟨rfl, rfl, rfl⟩
  go_enter Tryz.func109, Tryz.ntmps109
  go_wp2_with (go_at_call 130; refine (v8 _ _ _ _ (by omega) (by omega) (by omega) _).mono ?_; rintro e w' ⟨rfl, rfl⟩)
  exact bodyPost_ret (v := tri (zI (n / 1 % 2) 85 255) (zI (n / 2 % 2) 85 255) (zI (n / 4 % 2) 85 255)) (by simp [results, Tryz.results109, go_sem]) rfl ⟨by rw [H.out.1, H.out.2.1, H.out.2.2], by go_grown⟩
 by_cases c2 : n < 232
 ·have H : Hid (pr n = lev ((n - 16) / 36) /\ pg n = lev ((n - 16) / 6 % 6) /\ pb n = lev ((n - 16) % 6)) := by
   unfold Hid pr pg pb
   rw [if_neg (by omega), if_neg c1, if_pos c2, if_neg (by omega), if_neg c1, if_pos c2, if_neg (by omega), if_neg c1, if_pos c2]
   exact ⟨rfl, rfl, rfl⟩
  go_enter Tryz.func109, Tryz.ntmps109
  go_wp2_with fail
  refine (ky _ (by omega) (by omega) _).mono ?_; rintro e w1 ⟨rfl, hb1⟩
  have hb1' : Below w.heap.size w w1 := zk ((Below.refl _ _).alloc Xm _) (by simp) hb1
  obtain ⟨hcl1, hfz1, hz1⟩ := qG hb1; simp only [World.size_alloc] at hcl1 hfz1 hz1; clear hb1
  go_wp2_with fail
  refine (ky _ (by omega) (by omega) _).mono ?_; rintro e w2 ⟨rfl, hb2⟩
  have hb2' : Below w.heap.size w w2 := zk hb1' (by omega) hb2
  obtain ⟨hcl2, hfz2, hz2⟩ := qG hb2; clear hb2
  go_wp2_with fail
  refine (ky _ (by omega) (by omega) _).mono ?_; rintro e w3 ⟨rfl, hb3⟩
  have hb3' : Below w.heap.size w w3 := zk hb2' (by omega) hb3
  obtain ⟨hcl3, hfz3, hz3⟩ := qG hb3; clear hb3
  have z1 : w.heap.size < w1.heap.size := by omega
  have z2 : w.heap.size < w2.heap.size := by omega
  have z3 : w.heap.size < w3.heap.size := by omega
  go_wp2_with fail
  exact bodyPost_ret (v := tri (lev ((n - 16) / 36)) (lev ((n - 16) / 6 % 6)) (lev ((n - 16) % 6))) (by simp [results, Tryz.results109, go_sem, hcl1, hcl2, hcl3, z1, z2]) rfl ⟨by rw [H.out.1, H.out.2.1, H.out.2.2], by go_grown⟩
 ·have H : Hid (pr n = 8 + 10 * (n - 232) /\ pg n = 8 + 10 * (n - 232) /\ pb n = 8 + 10 * (n - 232)) := by
   unfold Hid pr pg pb
   rw [if_neg c, if_neg c1, if_neg c2, if_neg c, if_neg c1, if_neg c2, if_neg c, if_neg c1, if_neg c2]
   exact ⟨rfl, rfl, rfl⟩
  go_enter Tryz.func109, Tryz.ntmps109
  go_wp2
  exact bodyPost_ret (v := tri (8 + 10 * (n - 232)) (8 + 10 * (n - 232)) (8 + 10 * (n - 232))) (by simp [results, Tryz.results109, go_sem]) rfl ⟨by rw [H.out.1, H.out.2.1, H.out.2.2], by go_grown⟩
theorem kz (c : Int) (hl : -2147483648 <= c) (hh : c <= 2147483647) : Gives 92 #[.int .i32 c] (.tuple #[tri (chR c) (chG c) (chB c), .bool (hasC c)]) := by
 intro w
 rcases jA c with ⟨h, hk, hn⟩ | ⟨h, h', hk, hn⟩ | ⟨h, h', hk, hn⟩ | ⟨h, h2, h3, hk, hn⟩
 ·have H : Hid (hasC c = false /\ chR c = 0 /\ chG c = 0 /\ chB c = 0) := by subst h; exact ⟨rfl, rfl, rfl, rfl⟩
  clear h
  go_enter Tryz.func92, Tryz.ntmps92
  go_wp2_with (go_at_call 90; refine (qr _ hl hh _).mono ?_; rw [hk, hn]; rintro e w' ⟨rfl, rfl⟩)
  exact bodyPost_ret (v := .tuple #[tri 0 0 0, .bool false]) (by simp [results, Tryz.results92, go_sem]) rfl ⟨by rw [H.out.1, H.out.2.1, H.out.2.2.1, H.out.2.2.2], by go_grown⟩
 ·have H : Hid (hasC c = true /\ chR c = pr (c - 256) /\ chG c = pg (c - 256) /\ chB c = pb (c - 256)) := by
   unfold Hid hasC chR chG chB
   have n1 : ¬ (16777216 <= c /\ c < 33554432) := by omega
   rw [if_neg n1, if_neg n1, if_neg n1, if_pos ⟨h, h'⟩, if_pos ⟨h, h'⟩, if_pos ⟨h, h'⟩, decide_eq_true_iff]
   exact ⟨Or.inl ⟨h, h'⟩, rfl, rfl, rfl⟩
  go_enter Tryz.func92, Tryz.ntmps92
  go_wp2_with (first | (go_at_call 90; refine (qr _ hl hh _).mono ?_; rw [hk, hn]; rintro e w' ⟨rfl, rfl⟩) | (go_at_call 109; refine (Za _ (by omega) (by omega) _).mono ?_; rintro e w1 ⟨rfl, hb1⟩; obtain ⟨hcl, hfz, hz⟩ := qG hb1; simp only [World.size_alloc] at hcl hfz hz))
  have hb2 : Below w.heap.size w w1 := zk ((Below.refl _ _).alloc Xm _) (by simp) hb1
  exact bodyPost_ret (v := .tuple #[tri (pr (c - 256)) (pg (c - 256)) (pb (c - 256)), .bool true]) (by simp [results, Tryz.results92, go_sem, hcl]) rfl ⟨by rw [H.out.1, H.out.2.1, H.out.2.2.1, H.out.2.2.2], by go_grown⟩
 ·have H : Hid (hasC c = true /\ chR c = (c - 16777216) / 65536 /\ chG c = (c - 16777216) / 256 % 256 /\ chB c = (c - 16777216) % 256) := by
   unfold Hid hasC chR chG chB
   rw [if_pos ⟨h, h'⟩, if_pos ⟨h, h'⟩, if_pos ⟨h, h'⟩, decide_eq_true_iff]
   exact ⟨Or.inr ⟨h, h'⟩, by omega, by omega, by omega⟩
  go_enter Tryz.func92, Tryz.ntmps92
  go_wp2_with (go_at_call 90; refine (qr _ hl hh _).mono ?_; rw [hk, hn]; rintro e w' ⟨rfl, rfl⟩)
  exact bodyPost_ret (v := .tuple #[tri ((c - 16777216) / 65536) ((c - 16777216) / 256 % 256) ((c - 16777216) % 256), .bool true]) (by simp [results, Tryz.results92, go_sem]) rfl ⟨by rw [H.out.1, H.out.2.1, H.out.2.2.1, H.out.2.2.2], by go_grown⟩
 ·have H : Hid (hasC c = false /\ chR c = 0 /\ chG c = 0 /\ chB c = 0) := by
   unfold Hid hasC chR chG chB
   rw [if_neg h3, if_neg h3, if_neg h3, if_neg h2, if_neg h2, if_neg h2, decide_eq_false_iff_not]
   exact ⟨by rintro (x | x) <;> contradiction, rfl, rfl, rfl⟩
  clear h h2 h3
  go_enter Tryz.func92, Tryz.ntmps92
  go_wp2_with (go_at_call 90; refine (qr _ hl hh _).mono ?_; rw [hk, hn]; rintro e w' ⟨rfl, rfl⟩)
  exact bodyPost_ret (v := .tuple #[tri 0 0 0, .bool false]) (by simp [results, Tryz.results92, go_sem]) rfl ⟨by rw [H.out.1, H.out.2.1, H.out.2.2.1, H.out.2.2.2], by go_grown⟩
theorem xf (c : Int) : (0 <= chR c /\ chR c <= 255) /\ (0 <= chG c /\ chG c <= 255) /\ (0 <= chB c /\ chB c <= 255) := by
 have lv : ∀ n : Int, 0 <= n -> n <= 5 -> 0 <= lev n /\ lev n <= 255 := by intro n a b; unfold lev; split <;> omega
 have bo : ∀ b lo hi : Int, 0 <= lo -> lo <= 255 -> 0 <= hi -> hi <= 255 -> 0 <= zI b lo hi /\ zI b lo hi <= 255 := by intro b lo hi _ _ _ _; unfold zI; split <;> omega
 unfold chR chG chB
 by_cases h : 16777216 <= c /\ c < 33554432
 ·rw [if_pos h, if_pos h, if_pos h]; omega
 rw [if_neg h, if_neg h, if_neg h]
 by_cases h2 : 256 <= c /\ c < 512
 ·rw [if_pos h2, if_pos h2, if_pos h2]
  obtain ⟨a, b⟩ := h2
  refine ⟨?_, ?_, ?_⟩
  ·unfold pr
   split
   ·exact bo _ _ _ (by decide) (by decide) (by decide) (by decide)
   split
   ·exact bo _ _ _ (by decide) (by decide) (by decide) (by decide)
   split
   ·exact lv _ (by omega) (by omega)
   ·omega
  ·unfold pg
   split
   ·exact bo _ _ _ (by decide) (by decide) (by decide) (by decide)
   split
   ·exact bo _ _ _ (by decide) (by decide) (by decide) (by decide)
   split
   ·exact lv _ (by omega) (by omega)
   ·omega
  ·unfold pb
   split
   ·exact bo _ _ _ (by decide) (by decide) (by decide) (by decide)
   split
   ·exact bo _ _ _ (by decide) (by decide) (by decide) (by decide)
   split
   ·exact lv _ (by omega) (by omega)
   ·omega
 ·rw [if_neg h2, if_neg h2, if_neg h2]; omega
end
section
open Go.RowKit
abbrev styV (f b : Int) (a : B8) : Value := .agg #[.int .i32 f, .int .i32 b, .int .u8 (bI a)]
theorem Tells.still {k : Nat} {args : Array Value} {v : Value} (h : Tells k args v) {w : World} : Calls Tryz.prog k args w fun e w'' => e = .returned v /\ w'' = w :=
 (h w).mono fun _ _ ⟨he, hm⟩ => ⟨he, hm.symm⟩
theorem Zb (c : Int) : Tells 61 #[.int .i32 c] (.int .i32 (plC c)) := by
 intro w
 by_cases h1 : c = 1
 ·subst h1
  go_enter Tryz.func61, Tryz.ntmps61
  go_wp2
  go_ret
  exact ⟨rfl, rfl⟩
 ·cases h : zw c
  all_goals
   have H : Hid (plC c = if zw c = true then c else 0) := by unfold plC cnt Hid; rw [if_neg h1]
   go_enter Tryz.func61, Tryz.ntmps61
   go_wp2_with (go_at_call 78; refine (kq _ _).mono ?_; rintro e w' ⟨rfl, rfl⟩; rw [h])
   go_ret
   exact ⟨zC (by rw [H.out, h]; simp), rfl⟩
theorem st_said (c : Int) : Tells 82 #[.int .i32 c] (.int .i32 (cnt c)) := by
 intro w
 cases h : zw c
 all_goals
  have H : Hid (cnt c = if zw c = true then c else 0) := rfl
  go_enter Tryz.func82, Tryz.ntmps82
  go_wp2_with (go_at_call 78; refine (kq _ _).mono ?_; rintro e w' ⟨rfl, rfl⟩; rw [h])
  go_ret
  exact ⟨zC (by rw [H.out, h]; simp), rfl⟩
set_option maxHeartbeats 4000000 in
set_option maxRecDepth 100000 in
theorem kC (f b : Int) (a : B8) : Gives 40 #[styV f b a] (styV (plC f) (plC b) a) := by
 intro w
 go_enter Tryz.func40, Tryz.ntmps40
 go_wp2_with fail
 refine wp_region_still_tail 9 (by kernel_rfl) (by kernel_rfl) ?_
 change wpStill _ _ (World.drew _) _ _ _
 simp only [Xn, Xo, Xp, Xq]
 repeat (first | still_step | still_call (Zb _).still)
 refine wpStill_nil ?_
 change wpList _ _ _ _ _ (World.drew _)
 go_wp2_with fail
 exact bodyPost_ret (v := styV (plC f) (plC b) a) (by simp [results, Tryz.results40, go_sem]) rfl ⟨rfl, by go_grown⟩
theorem Zc (c : Int) (hl : -2147483648 <= c) (hh : c <= 2147483647) : Tells 89 #[.int .i32 c] (.bool (zw c)) := by
 intro w
 have hc : zw c = decide (qa c ≠ 0 \/ c = 0) := by
  unfold zw
  rw [decide_eq_decide]
  rcases jA c with ⟨h, hk, hn⟩ | ⟨h, h', hk, hn⟩ | ⟨h, h', hk, hn⟩ | ⟨h, h2, h3, hk, hn⟩
  ·rw [hk]; omega
  ·rw [hk]; omega
  ·rw [hk]; omega
  ·rw [hk]; omega
 have H := Xk hc; clear hc
 by_cases k : qa c = 0
 ·have H2 := Xk k
  have g : (qa c != 0) = false := by rw [k]; rfl
  clear k
  by_cases z : c = 0
  all_goals
   have Z := Xk z
   first | (have g2 : (c == 0) = true := by simp [z]) | (have g2 : (c == 0) = false := by simp [z])
   clear z
   go_enter Tryz.func89, Tryz.ntmps89
   go_wp2_with (go_at_call 90; refine (qr _ hl hh _).mono ?_; rintro e w' ⟨rfl, rfl⟩)
   go_ret
   exact ⟨zu (by rw [H.out]; symm; first | exact decide_eq_true (Or.inr Z.out) | exact decide_eq_false (fun h => h.elim (fun h => h H2.out) Z.out)), rfl⟩
 ·have H2 := Xk k
  have g : (qa c != 0) = true := by rw [bne_iff_ne]; exact k
  clear k
  go_enter Tryz.func89, Tryz.ntmps89
  go_wp2_with (go_at_call 90; refine (qr _ hl hh _).mono ?_; rintro e w' ⟨rfl, rfl⟩)
  go_ret
  exact ⟨zu (by rw [H.out]; symm; exact decide_eq_true (Or.inl H2.out)), rfl⟩
theorem Zd (c : Int) (hl : -2147483648 <= c) (hh : c <= 2147483647) : Tells 74 #[.int .i32 c] (.int .i32 (plC c)) := by
 intro w
 by_cases h1 : c = 1
 ·subst h1
  go_enter Tryz.func74, Tryz.ntmps74
  go_wp2_with (go_at_call 89; refine (Zc 1 (by decide) (by decide) _).mono ?_; rintro e w' ⟨rfl, rfl⟩; rw [show zw 1 = true from rfl])
  go_ret
  exact ⟨rfl, rfl⟩
 ·cases h : zw c
  all_goals
   have H : Hid (plC c = if zw c = true then c else 0) := by unfold plC cnt Hid; rw [if_neg h1]
   go_enter Tryz.func74, Tryz.ntmps74
   go_wp2_with (go_at_call 89; refine (Zc _ hl hh _).mono ?_; rintro e w' ⟨rfl, rfl⟩; rw [h])
   go_ret
   exact ⟨zC (by rw [H.out, h]; simp), rfl⟩
abbrev zy (c : Int) : Prop := -2147483648 <= c /\ c <= 2147483647
set_option maxHeartbeats 4000000 in
theorem Ze (f b : Int) (a : B8) (hf : zy f) (hb : zy b) : Gives 57 #[styV f b a] (styV (plC f) (plC b) a) := by
 intro w
 have C1 := Xk (Zd f hf.1 hf.2)
 have C2 := Xk (Zd b hb.1 hb.2)
 clear hf hb
 go_enter Tryz.func57, Tryz.ntmps57
 go_wp2_with fail
 refine (C1.out _).mono ?_; rintro e w' ⟨rfl, rfl⟩
 go_wp2_with fail
 refine (C2.out _).mono ?_; rintro e w' ⟨rfl, rfl⟩
 go_wp2_with fail
 exact bodyPost_ret (v := styV (plC f) (plC b) a) (by simp [results, Tryz.results57, go_sem]) rfl ⟨rfl, by go_grown⟩
end
section
open Go.RowKit Go.Sort
theorem jO (a : Addr) (m n : Nat) : (a.add m).add n = a.add (m + n) := Go.Deep.add_add a m n
theorem kD (a : Addr) (n : Nat) (h : n ≠ 0) : (⟨a.block, a.off + n, none⟩ : Addr) = a.add n := by unfold Addr.add; rw [if_neg h]
def patL (p : Pat) : List Value := [.int .i32 p.fg, .int .i32 p.bg, .int .u8 (bI p.add), .int .u8 (bI p.drop)]
def SeesP (w : World) (B : Nat) (A : Option Addr) (ps : List Pat) : Prop :=
 ps ≠ [] -> ∃ ad, A = some ad /\ ad.block < B /\ ∀ j p, ps[j]? = some p -> ∀ i u, (patL p)[i]? = some u -> w.cell? (ad.add (j * 4 + i)) = some u
set_option maxHeartbeats 4000000 in
set_option maxRecDepth 100000 in
theorem st_Over (s : Sty) (A : Option Addr) (c : Nat) (ps : List Pat) (w : World) (hS : SeesP w w.heap.size A ps) (hn : ps.length <= 100000000000000) :
  Calls Tryz.prog 66 #[styV s.fg s.bg s.at_, .slice A ps.length c] w fun e w' => e = .returned (styV (jx s ps).fg (jx s ps).bg (jx s ps).at_) /\ Below w.heap.size w w' := by
 obtain ⟨n, hnn⟩ : ∃ n, n = ps.length := ⟨_, rfl⟩
 have HN := Xk hnn
 rw [<- hnn] at hn ⊢
 have HS := Xk hS
 clear hS hnn
 go_enter Tryz.func66, Tryz.ntmps66
 go_wp2_with fail
 refine (kC _ _ _ _).mono ?_; rintro e w1 ⟨rfl, hb1⟩
 have q1 : C3 w1 w.heap.size (.int .i32 s.fg) (.int .i32 s.bg) (.int .u8 (bI s.at_)) := C3.keep (by constructor <;> simp [go_sem]) hb1 (by simp; omega)
 have q2 : C3 w1 (w.heap.size + 1) (.int .i32 0) (.int .i32 0) (.int .u8 0) := C3.keep (by constructor <;> simp [go_sem]) hb1 (by simp)
 have hB1 : Below w.heap.size w w1 := zk (by go_grown) (by simp; omega) hb1
 clear hb1
 have q1' := q1.put (.int .i32 (plC s.fg)) (.int .i32 (plC s.bg)) (.int .u8 (bI s.at_))
 have q2' := ((q2.far (b' := w.heap.size) (o := 0) (y := .int .i32 (plC s.fg)) (by omega)).far (b' := w.heap.size) (o := 1) (y := .int .i32 (plC s.bg)) (by omega)).far (b' := w.heap.size) (o := 2) (y := .int .u8 (bI s.at_)) (by omega)
 have hB1' : Below w.heap.size w (((w1.setCell ⟨w.heap.size, 0, none⟩ (.int .i32 (plC s.fg))).setCell ⟨w.heap.size, 1, none⟩ (.int .i32 (plC s.bg))).setCell ⟨w.heap.size, 2, none⟩ (.int .u8 (bI s.at_))) := ((hB1.setCell Xm _).setCell Xm _).setCell Xm _
 have Q1 := Xk q1'
 have Q2 := Xk q2'
 have HB := Xk hB1'
 obtain ⟨a0, a1, a2, f0, f1, f2⟩ := q1
 clear q2 q1' q2' hB1 hB1'
 go_wp2_with fail
 go_loopw [13] (fun i wr => ∃ (k : Nat) (t : Sty), k <= n /\ i = .int .i64 k /\ Hid (t = (ps.take k).foldl jg (zq s)) /\ Hid (C3 wr w.heap.size (.int .i32 t.fg) (.int .i32 t.bg) (.int .u8 (bI t.at_)) /\ C3 wr (w.heap.size + 1) (.int .i32 0) (.int .i32 0) (.int .u8 0) /\ Below w.heap.size w wr)) (fun i _ => n - (intOf i).toNat)
 case atStart => exact ⟨0, zq s, by omega, rfl, Xk rfl, Xk ⟨Q1.out, Q2.out, HB.out⟩⟩
 case round =>
  obtain ⟨k, t, hk, rfl, ht, hc⟩ := hrel
  by_cases lt : k < n
  ·have kl : k < ps.length := by have := HN.out; omega
   obtain ⟨ad, rfl, hab, hcell⟩ := HS.out (fun e => by rw [e] at kl; cases kl)
   have hc1 := hcell k _ (List.getElem?_eq_getElem kl)
   obtain ⟨p, hp0⟩ : ∃ p, p = ps[k] := ⟨_, rfl⟩
   rw [<- hp0] at hc1
   obtain ⟨h1, h2, h3⟩ := hc.out
   have cell : ∀ i u, (patL p)[i]? = some u -> wr.cell? (ad.add (k * 4 + i)) = some u := fun i u hu => (h3.cell (p := ad.add (k * 4 + i)) (by rw [zg]; exact hab)).trans (hc1 i u hu)
   have z0 : wr.cell? (ad.add (k * 4)) = some (.int .i32 p.fg) := cell 0 _ rfl
   have z1 : wr.cell? ⟨(ad.add (k * 4)).block, (ad.add (k * 4)).off + 1, none⟩ = some (.int .i32 p.bg) := by rw [kD _ 1 (by decide), jO]; exact cell 1 _ rfl
   have z2 : wr.cell? ⟨(ad.add (k * 4)).block, (ad.add (k * 4)).off + 2, none⟩ = some (.int .u8 (bI p.add)) := by rw [kD _ 2 (by decide), jO]; exact cell 2 _ rfl
   have z3 : wr.cell? ⟨(ad.add (k * 4)).block, (ad.add (k * 4)).off + 3, none⟩ = some (.int .u8 (bI p.drop)) := by rw [kD _ 3 (by decide), jO]; exact cell 3 _ rfl
   have l0 := h1.lt
   have T1 : Hid (t.at_ &&& ~~~p.drop ||| p.add = (jg t p).at_) := Xk rfl
   have F1 : Hid ((jg t p).fg = if cnt p.fg = 0 then t.fg else plC (cnt p.fg)) := Xk (by
    show layC t.fg (cnt p.fg) = _
    rw [vN]; unfold layC; split <;> rfl)
   have F2 : Hid ((jg t p).bg = if cnt p.bg = 0 then t.bg else plC (cnt p.bg)) := Xk (by
    show layC t.bg (cnt p.bg) = _
    rw [vN]; unfold layC; split <;> rfl)
   have NT : Hid (jg t p = (ps.take (k + 1)).foldl jg (zq s)) := Xk (by
    rw [List.take_succ_eq_append_getElem kl, List.foldl_append, <- ht.out, hp0]; rfl)
   obtain ⟨a0, a1, a2, f0, f1, f2⟩ := h1
   clear h2 h3 cell hc1 hcell hp0
   by_cases c1 : cnt p.fg = 0
   all_goals by_cases c2 : cnt p.bg = 0
   all_goals
    have F1 := F1.out
    have F2 := F2.out
    first | rw [if_pos c1] at F1 | rw [if_neg c1] at F1
    first | rw [if_pos c2] at F2 | rw [if_neg c2] at F2
    have F1 := Xk F1
    have F2 := Xk F2
    first | (have g1 : (cnt p.fg != 0) = true := by rw [bne_iff_ne]; exact c1) | (have g1 : (cnt p.fg != 0) = false := by rw [c1]; rfl)
    first | (have g2 : (cnt p.bg != 0) = true := by rw [bne_iff_ne]; exact c2) | (have g2 : (cnt p.bg != 0) = false := by rw [c2]; rfl)
    clear c1 c2
    go_wp2_with (first | (go_at_call 82; refine (st_said _ _).mono ?_; rintro e w' ⟨rfl, rfl⟩) | (go_at_call 61; refine (Zb _ _).mono ?_; rintro e w' ⟨rfl, rfl⟩))
    go_roundw
    case rel =>
     refine ⟨k + 1, jg t p, by omega, by go_num, NT, ?_⟩
     have ne : w.heap.size + 1 ≠ w.heap.size := by omega
     have K := hc.out.1
     have K2 := hc.out.2.1
     have K3 := hc.out.2.2
     refine Xk ⟨?_, ?_, ?_⟩
     ·rw [F1.out, F2.out, <- T1.out]
      first | with_reducible exact ((K.set2 _).set2 _).alloc _ | with_reducible exact (((K.set2 _).set2 _).set1 _).alloc _ | with_reducible exact (((K.set2 _).set2 _).set0 _).alloc _ | with_reducible exact ((((K.set2 _).set2 _).set0 _).set1 _).alloc _
     ·first | with_reducible exact ((K2.far ne).far ne).alloc _ | with_reducible exact (((K2.far ne).far ne).far ne).alloc _ | with_reducible exact ((((K2.far ne).far ne).far ne).far ne).alloc _
     ·refine Below.alloc ?_ (by simp; omega) _
      first | with_reducible exact (K3.setCell Xm _).setCell Xm _ | with_reducible exact ((K3.setCell Xm _).setCell Xm _).setCell Xm _ | with_reducible exact (((K3.setCell Xm _).setCell Xm _).setCell Xm _).setCell Xm _
    case measure => simp [intOf]; omega
  ·have ek : k = n := by omega
   subst ek
   have TT : Hid (t = jx s ps) := Xk (by rw [ht.out, HN.out, List.take_length]; rfl)
   obtain ⟨h1, h2, h3⟩ := hc.out
   have H3 := Xk h3
   obtain ⟨a0, a1, a2, f0, f1, f2⟩ := h1
   obtain ⟨b0, b1, b2, g0, g1, g2⟩ := h2
   clear h3
   go_wp2_with fail
   refine bodyPost_ret (v := styV (jx s ps).fg (jx s ps).bg (jx s ps).at_) (by rw [<- TT.out]; simp [results, Tryz.results66, go_sem, b0, b1, b2]) rfl ⟨rfl, ?_⟩
   exact ((H3.out.setCell (Nat.le_succ _) _).setCell (Nat.le_succ _) _).setCell (Nat.le_succ _) _
end
section
open Go.RowKit Go.Sort
def celV (c : Cel) : List Value := [.string c.text, .int .i8 c.wide, .int .i32 c.st.fg, .int .i32 c.st.bg, .int .u8 (bI c.st.at_)]
def zc (l : List Cel) : List Value := l.flatMap celV
theorem jn (a : Cel) (r : List Cel) : zc (a :: r) = celV a ++ zc r := by unfold zc; exact List.flatMap_cons ..
theorem jP (a b : List Cel) : zc (a ++ b) = zc a ++ zc b := by unfold zc; exact List.flatMap_append
theorem qL (l : List Cel) : (zc l).length = l.length * 5 := by
 induction l with
 | nil => rfl
 | cons a l ih => rw [jn, List.length_append, ih, List.length_cons]; simp [celV]; omega
theorem xI (l : List Cel) : ∀ k, zc (l.drop k) = (zc l).drop (k * 5) := by
 induction l with
 | nil => intro k; simp [zc]
 | cons a l ih =>
  intro k
  cases k with
  | zero => simp
  | succ k =>
   rw [List.drop_succ_cons, ih, jn, show (k + 1) * 5 = 5 + k * 5 by omega, <- List.drop_drop]
   rfl
theorem xJ (l : List Cel) : ∀ k, zc (l.take k) = (zc l).take (k * 5) := by
 induction l with
 | nil => intro k; simp [zc]
 | cons a l ih =>
  intro k
  cases k with
  | zero => simp [zc]
  | succ k =>
   rw [List.take_succ_cons, jn, ih, jn, show (k + 1) * 5 = 5 + k * 5 by omega, List.take_add]
   rfl
theorem over0 (s : Sty) (W : World) : Calls Tryz.prog 66 #[styV s.fg s.bg s.at_, .slice none 0 0] W fun e w' => e = .returned (styV (zq s).fg (zq s).bg (zq s).at_) /\ Below W.heap.size W w' :=
 st_Over s none 0 [] W (fun h => absurd rfl h) (by simp)
structure C5 (w : World) (b : Nat) (x0 x1 x2 x3 x4 : Value) : Prop where
 c0 : w.cell? ⟨b, 0, none⟩ = some x0
 c1 : w.cell? ⟨b, 1, none⟩ = some x1
 c2 : w.cell? ⟨b, 2, none⟩ = some x2
 c3 : w.cell? ⟨b, 3, none⟩ = some x3
 c4 : w.cell? ⟨b, 4, none⟩ = some x4
theorem C5.keep {w w' : World} {B b : Nat} {x0 x1 x2 x3 x4 : Value} (h : C5 w b x0 x1 x2 x3 x4) (hb : Below B w w') (hB : b < B) : C5 w' b x0 x1 x2 x3 x4 :=
 ⟨(hb.cell (p := ⟨b, 0, none⟩) hB).trans h.c0, (hb.cell (p := ⟨b, 1, none⟩) hB).trans h.c1, (hb.cell (p := ⟨b, 2, none⟩) hB).trans h.c2, (hb.cell (p := ⟨b, 3, none⟩) hB).trans h.c3, (hb.cell (p := ⟨b, 4, none⟩) hB).trans h.c4⟩
theorem C5.lt {w : World} {b : Nat} {x0 x1 x2 x3 x4 : Value} (h : C5 w b x0 x1 x2 x3 x4) : b < w.heap.size := block_lt_of_cell h.c0
theorem C5.regrown {w : World} {b : Nat} {x0 x1 x2 x3 x4 : Value} (h : C5 w b x0 x1 x2 x3 x4) (d : Nat) (os : Array Obj) : C5 (grow (redrawn w d) os) b x0 x1 x2 x3 x4 := h.keep (below_regrown w d os) h.lt
structure C2 (w : World) (b : Nat) (x0 x1 : Value) : Prop where
 c0 : w.cell? ⟨b, 0, none⟩ = some x0
 c1 : w.cell? ⟨b, 1, none⟩ = some x1
theorem C2.keep {w w' : World} {B b : Nat} {x0 x1 : Value} (h : C2 w b x0 x1) (hb : Below B w w') (hB : b < B) : C2 w' b x0 x1 :=
 ⟨(hb.cell (p := ⟨b, 0, none⟩) hB).trans h.c0, (hb.cell (p := ⟨b, 1, none⟩) hB).trans h.c1⟩
theorem C2.lt {w : World} {b : Nat} {x0 x1 : Value} (h : C2 w b x0 x1) : b < w.heap.size := block_lt_of_cell h.c0
theorem C2.regrown {w : World} {b : Nat} {x0 x1 : Value} (h : C2 w b x0 x1) (d : Nat) (os : Array Obj) : C2 (grow (redrawn w d) os) b x0 x1 := h.keep (below_regrown w d os) h.lt
theorem kE {w : World} {B : Nat} {A : Option Addr} {a : Cel} {r : List Cel} (h : Sees w B A (zc (a :: r))) : ∃ ad, A = some ad /\ ad.block < B /\ w.cell? ad = some (.string a.text) /\ w.cell? ⟨ad.block, ad.off + 1, none⟩ = some (.int .i8 a.wide) /\ w.cell? ⟨ad.block, ad.off + 2, none⟩ = some (.int .i32 a.st.fg) /\ w.cell? ⟨ad.block, ad.off + 3, none⟩ = some (.int .i32 a.st.bg) /\ w.cell? ⟨ad.block, ad.off + 4, none⟩ = some (.int .u8 (bI a.st.at_)) := by
 rw [jn] at h
 obtain ⟨ad, e, hb, hc⟩ := h (by simp [celV])
 refine ⟨ad, e, hb, ?_, ?_, ?_, ?_, ?_⟩
 ·have := hc 0 (.string a.text) rfl
  rwa [show ad.add 0 = ad by unfold Addr.add; rw [if_pos rfl]] at this
 ·rw [qm ad 1 (by decide)]; exact hc 1 _ rfl
 ·rw [qm ad 2 (by decide)]; exact hc 2 _ rfl
 ·rw [qm ad 3 (by decide)]; exact hc 3 _ rfl
 ·rw [qm ad 4 (by decide)]; exact hc 4 _ rfl
theorem cel_two {w W : World} {ad : Addr} {B : Nat} {a b : Cel} {r : List Cel} (h : Sees w B (some ad) (zc (a :: b :: r))) (hb : Below w.heap.size w W) (hab : ad.block < w.heap.size) : W.cell? ⟨ad.block, ad.off + 5, none⟩ = some (.string b.text) /\ W.cell? ⟨ad.block, ad.off + 5 + 1, none⟩ = some (.int .i8 b.wide) /\ W.cell? ⟨ad.block, ad.off + 5 + 2, none⟩ = some (.int .i32 b.st.fg) /\ W.cell? ⟨ad.block, ad.off + 5 + 3, none⟩ = some (.int .i32 b.st.bg) /\ W.cell? ⟨ad.block, ad.off + 5 + 4, none⟩ = some (.int .u8 (bI b.st.at_)) := by
 rw [jn, jn] at h
 obtain ⟨ad', e, _, hc⟩ := h (by simp [celV])
 cases e
 have g : ∀ k, k ≠ 0 -> (⟨ad.block, ad.off + k, none⟩ : Addr) = ad.add k := fun k hk => qm ad k hk
 refine ⟨?_, ?_, ?_, ?_, ?_⟩
 ·rw [g 5 (by decide)]; exact (hb.cell (p := ad.add 5) (by rw [zg]; exact hab)).trans (hc 5 _ rfl)
 ·rw [Nat.add_assoc, g (5 + 1) (by decide)]; exact (hb.cell (p := ad.add 6) (by rw [zg]; exact hab)).trans (hc 6 _ rfl)
 ·rw [Nat.add_assoc, g (5 + 2) (by decide)]; exact (hb.cell (p := ad.add 7) (by rw [zg]; exact hab)).trans (hc 7 _ rfl)
 ·rw [Nat.add_assoc, g (5 + 3) (by decide)]; exact (hb.cell (p := ad.add 8) (by rw [zg]; exact hab)).trans (hc 8 _ rfl)
 ·rw [Nat.add_assoc, g (5 + 4) (by decide)]; exact (hb.cell (p := ad.add 9) (by rw [zg]; exact hab)).trans (hc 9 _ rfl)
theorem Sees.dropV {w : World} {B : Nat} {ad : Addr} {xs : List Value} (k : Nat) (h : Sees w B (some ad) xs) : Sees w B (some (ad.add k)) (xs.drop k) := fun hne => by
 obtain ⟨ad', e, hb, hc⟩ := h (fun e => hne (by rw [e]; simp))
 cases e
 refine ⟨_, rfl, by rw [zg]; exact hb, fun j u hj => ?_⟩
 rw [jO]
 refine hc (k + j) u ?_
 rw [List.getElem?_drop] at hj
 exact hj
theorem Sees.takeV {w : World} {B : Nat} {A : Option Addr} {xs : List Value} (k : Nat) (h : Sees w B A xs) : Sees w B A (xs.take k) := fun hne => by
 obtain ⟨ad, e, hb, hc⟩ := h (fun e => hne (by rw [e]; simp))
 refine ⟨ad, e, hb, fun j u hj => hc j u ?_⟩
 rw [List.getElem?_take] at hj
 split at hj
 ·exact hj
 ·cases hj
end
section
open Go Go.RowKit Go.Sort
section
structure okR (c : Cel) : Prop where
 sz : c.text.size <= 900000000000
 w0 : -128 <= c.wide
 w1 : c.wide <= 127
 fg : zy c.st.fg
 bg : zy c.st.bg
set_option maxHeartbeats 8000000 in
set_option maxRecDepth 100000 in
theorem Zf (s : Sty) (hf : zy s.fg) (hb : zy s.bg) (w : World) : Calls Tryz.prog 73 #[styV s.fg s.bg s.at_] w fun e w' => e = .returned (.bool (decide (zq s = s))) /\ Below w.heap.size w w' := by
 obtain ⟨f, b, a⟩ := s
 dsimp only at *
 obtain ⟨Q, hQ⟩ : ∃ Q, Q = w.alloc (.cells #[.int .i32 f, .int .i32 b, .int .u8 (bI a)] 56) := ⟨_, rfl⟩
 have BQ : Below w.heap.size w Q := by rw [hQ]; exact (Below.refl _ w).alloc Xm _
 have KQ : Bq Q w.heap.size [.int .i32 f, .int .i32 b, .int .u8 (bI a)] := by rw [hQ]; exact Bq.new w _ _
 have CT := Xk (Ze f b a hf hb Q)
 have CS : Hid (decide (zq ⟨f, b, a⟩ = ⟨f, b, a⟩) = (decide (plC f = f) && decide (plC b = b))) := Xk (by
  have e : (zq ⟨f, b, a⟩ = (⟨f, b, a⟩ : Sty)) ↔ (plC f = f /\ plC b = b) := by
   unfold zq
   simp
  rw [Bool.eq_iff_iff]
  simp [e])
 have HQ := Xk hQ
 have HB := Xk BQ
 have HK := Xk KQ
 have qs : w.heap.size < Q.heap.size := by rw [hQ]; simp
 generalize decide (zq ⟨f, b, a⟩ = ⟨f, b, a⟩) = D at *
 generalize plC f = f2 at *
 generalize plC b = b2 at *
 have k0 := HK.out.c 0 _ rfl
 have k1 := HK.out.c 1 _ rfl
 have k2 := HK.out.c 2 _ rfl
 clear hQ BQ KQ hf hb
 go_enter Tryz.func73, Tryz.ntmps73
 go_upto_region 1 with fail
 rw [<- HQ.out]
 clear HQ
 go_wp2_with fail
 refine CT.out.mono ?_; rintro e w1 ⟨rfl, hw1⟩
 have HBW := Xk (HB.out.trans (hw1.mono HB.out.size))
 have l0 := (HK.out.keep hw1 qs).c 0 _ rfl
 have l1 := (HK.out.keep hw1 qs).c 1 _ rfl
 have l2 := (HK.out.keep hw1 qs).c 2 _ rfl
 have LT := Xk (Nat.lt_of_lt_of_le qs hw1.size)
 obtain ⟨V, hV⟩ : ∃ V, V = w1.alloc (.cells #[.int .i32 f2, .int .i32 b2, .int .u8 (bI a)] 56) := ⟨_, rfl⟩
 have bv : Below w1.heap.size w1 V := by rw [hV]; exact (Below.refl _ w1).alloc Xm _
 have KV : Bq V w1.heap.size [.int .i32 f2, .int .i32 b2, .int .u8 (bI a)] := by rw [hV]; exact Bq.new w1 _ _
 have HV := Xk hV
 have m0 := KV.c 0 _ rfl
 have m1 := KV.c 1 _ rfl
 have m2 := KV.c 2 _ rfl
 have n0 := ((HK.out.keep hw1 qs).keep bv LT.out).c 0 _ rfl
 have n1 := ((HK.out.keep hw1 qs).keep bv LT.out).c 1 _ rfl
 have n2 := ((HK.out.keep hw1 qs).keep bv LT.out).c 2 _ rfl
 have HBV := Xk (HBW.out.trans (bv.mono HBW.out.size))
 clear CT hw1 hV bv KV k0 k1 k2
 go_upto_region 2 with fail
 rw [<- HV.out]
 clear HV l0 l1 l2
 by_cases e1 : f2 = f
 ·have q1 : (f2 == f) = true := by rw [e1]; exact beq_self_eq_true f
  by_cases e2 : b2 = b
  ·have q2 : (b2 == b) = true := by rw [e2]; exact beq_self_eq_true b
   have R := Xk (show D = true by rw [CS.out, decide_eq_true e1, decide_eq_true e2]; rfl)
   subst e1
   subst e2
   go_wp2_with fail
   go_ret
   exact ⟨by rw [R.out]; simp, HBV.out⟩
  ·have q2 : (b2 == b) = false := by rw [beq_eq_false_iff_ne]; exact e2
   have R := Xk (show D = false by rw [CS.out, decide_eq_true e1, decide_eq_false e2]; rfl)
   go_wp2_with fail
   go_ret
   exact ⟨by rw [R.out]; simp [e2], HBV.out⟩
 ·have q1 : (f2 == f) = false := by rw [beq_eq_false_iff_ne]; exact e1
  have R := Xk (show D = false by rw [CS.out, decide_eq_false e1]; rfl)
  go_wp2_with fail
  go_ret
  exact ⟨by rw [R.out]; simp [e1], HBV.out⟩
theorem sing_eq (c : Cel) : zH c = (decide (c.wide = 1) && decide (oneB c.text = some 1) && decide (zq c.st = c.st)) := rfl
set_option maxHeartbeats 16000000 in
set_option maxRecDepth 100000 in
theorem Jh (x : Cel) (ok : okR x) (w : World) : Calls Tryz.prog 56 #[.agg #[.string x.text, .int .i8 x.wide, .int .i32 x.st.fg, .int .i32 x.st.bg, .int .u8 (bI x.st.at_)]] w fun e w' => e = .returned (.bool (zH x)) /\ Below w.heap.size w w' := by
 obtain ⟨tx, wd, st⟩ := x
 obtain ⟨sz, w0, w1', fg, bg⟩ := ok
 dsimp only at *
 have PL := Xk (fun W => Zf st fg bg W)
 have SE := Xk (sing_eq ⟨tx, wd, st⟩)
 dsimp only at SE
 generalize zH ⟨tx, wd, st⟩ = F at *
 generalize decide (zq st = st) = D at *
 obtain ⟨f, b, a⟩ := st
 dsimp only at *
 obtain ⟨Q, hQ⟩ : ∃ Q, Q = w.alloc (.cells #[.string tx, .int .i8 wd, .int .i32 f, .int .i32 b, .int .u8 (bI a)] 58) := ⟨_, rfl⟩
 have BQ : Below w.heap.size w Q := by rw [hQ]; exact (Below.refl _ w).alloc Xm _
 have KQ : Bq Q w.heap.size [.string tx, .int .i8 wd, .int .i32 f, .int .i32 b, .int .u8 (bI a)] := by rw [hQ]; exact Bq.new w _ _
 have OT := Xk (vZ tx sz Q)
 have HQ := Xk hQ
 have HB := Xk BQ
 have HK := Xk KQ
 have qs : w.heap.size < Q.heap.size := by rw [hQ]; simp
 have k0 := HK.out.c 0 _ rfl
 generalize oneB tx = o at *
 clear hQ BQ KQ fg bg sz w0 w1'
 go_enter Tryz.func56, Tryz.ntmps56
 go_upto_region 1 with fail
 rw [<- HQ.out]
 clear HQ
 cases o with
 | none =>
  have R := Xk (show F = false by rw [SE.out, decide_eq_false (show ¬ (none : Option Int) = some 1 by intro z; cases z)]; cases decide (wd = 1) <;> rfl)
  unfold oneV at OT
  go_wp2_with fail
  refine OT.out.mono ?_; rintro e w1 ⟨rfl, hw1⟩
  obtain ⟨V, hV⟩ : ∃ V, V = w1.alloc (.cells #[.string ⟨#[]⟩, .int .i64 0] 109) := ⟨_, rfl⟩
  have bv : Below w1.heap.size w1 V := by rw [hV]; exact (Below.refl _ w1).alloc Xm _
  have HV := Xk hV
  have n1 := ((HK.out.keep hw1 qs).keep bv (Nat.lt_of_lt_of_le qs hw1.size)).c 1 _ rfl
  have HBV := Xk ((HB.out.trans (hw1.mono HB.out.size)).trans (bv.mono (Nat.le_trans HB.out.size hw1.size)))
  clear OT hw1 hV bv k0
  go_upto_region 2 with fail
  rw [<- HV.out]
  clear HV
  by_cases e1 : wd = 1
  ·have q1 : (wd == 1) = true := by rw [e1]; rfl
   clear e1
   go_wp2_with fail
   go_ret
   exact ⟨by rw [R.out]; rfl, HBV.out⟩
  ·have q1 : (wd == 1) = false := by rw [beq_eq_false_iff_ne]; exact e1
   clear e1
   go_wp2_with fail
   go_ret
   exact ⟨by rw [R.out]; rfl, HBV.out⟩
 | some u =>
  have ST := Xk (show F = (decide (wd = 1) && decide (u = 1) && D) by
   rw [SE.out]
   congr 2
   rw [Bool.eq_iff_iff]
   simp)
  unfold oneV at OT
  go_wp2_with fail
  refine OT.out.mono ?_; rintro e w1 ⟨rfl, hw1⟩
  obtain ⟨V, hV⟩ : ∃ V, V = w1.alloc (.cells #[.string tx, .int .i64 u] 109) := ⟨_, rfl⟩
  have bv : Below w1.heap.size w1 V := by rw [hV]; exact (Below.refl _ w1).alloc Xm _
  have KV : Bq V w1.heap.size [.string tx, .int .i64 u] := by rw [hV]; exact Bq.new w1 _ _
  have HV := Xk hV
  have KN := ((HK.out.keep hw1 qs).keep bv (Nat.lt_of_lt_of_le qs hw1.size))
  have n1 := KN.c 1 _ rfl
  have n2 := KN.c 2 _ rfl
  have n3 := KN.c 3 _ rfl
  have n4 := KN.c 4 _ rfl
  have m1 := KV.c 1 _ rfl
  have HBV := Xk ((HB.out.trans (hw1.mono HB.out.size)).trans (bv.mono (Nat.le_trans HB.out.size hw1.size)))
  have PL := Xk (PL.out V)
  clear OT hw1 hV bv k0 KN KV SE
  go_upto_region 2 with fail
  rw [<- HV.out]
  clear HV
  by_cases e1 : wd = 1
  ·have q1 : (wd == 1) = true := by rw [e1]; rfl
   by_cases e2 : u = 1
   ·have q2 : (u == 1) = true := by rw [e2]; rfl
    have R := Xk (show F = D by rw [ST.out, decide_eq_true e1, decide_eq_true e2]; rfl)
    clear e1 e2
    go_wp2_with fail
    refine PL.out.mono ?_; rintro e w3 ⟨rfl, h3⟩
    have HB3 := Xk (HBV.out.trans (h3.mono HBV.out.size))
    clear h3 PL
    go_wp2_with fail
    go_ret
    exact ⟨by rw [R.out]; rfl, HB3.out⟩
   ·have q2 : (u == 1) = false := by rw [beq_eq_false_iff_ne]; exact e2
    have R := Xk (show F = false by rw [ST.out, decide_eq_true e1, decide_eq_false e2]; rfl)
    clear e1 e2
    go_wp2_with fail
    go_ret
    exact ⟨by rw [R.out]; rfl, HBV.out⟩
  ·have q1 : (wd == 1) = false := by rw [beq_eq_false_iff_ne]; exact e1
   have R := Xk (show F = false by rw [ST.out, decide_eq_false e1]; rfl)
   clear e1
   go_wp2_with fail
   go_ret
   exact ⟨by rw [R.out]; rfl, HBV.out⟩
end
end
end Go.Proofs.YtifoijbpbigaaaaGreatDoor
