/- What lies below tapes (kept of earlier texts: Shelf, Base, DfUc, RaP, Gen, Mem). -/
import Derived.Shelf.Strconv.Itoa0
import Derived.Shelf.Strconv.Itoa1
import Derived.Shelf.LaysM
import Derived.Shelf.Strconv.Itoa2
import Derived.Shelf.Strconv.Itoa3
import Derived.Test.YtifoijbpbigaaaaGreatDoorProg
import Derived.Test.YtifoijbpbigaaaaGreatDoorChecked
import Derived.WalkKit
import Derived.WalkSpells
import Derived.WalkLawsBesides
import Derived.Handy
import Derived.Lib.Hide
import Derived.Deep.QuietTactic
import Derived.BigQuiet
import Derived.Laws.BitsLemmas
import Derived.StillTail
import Derived.Lib.QuietBelow
import Derived.OwnWalk
import Derived.ArgAppend
import Derived.Laws.OwnMore
import Derived.Maps.AppendAt
set_option linter.unusedVariables false
set_option linter.unusedSimpArgs false
namespace Go.Proofs
open Go.Shelf
def Tryz.laysM171_ren : Go.Shelf.Ren := ⟨fun | 171 => 47 | 243 => 65 | 246 => 81 | 283 => 96 | 284 => 97 | 285 => 98 | 286 => 99 | 129 => 112 | 317 => 111 | 318 => 113 | 319 => 114 | 320 => 115 | 337 => 132 | 338 => 133 | n => n, fun | 3 => 3 | 9 => 9 | 2 => 2 | 4 => 4 | 171 => 137 | 0 => 0 | 53 => 138 | 37 => 66 | 5 => 5 | 173 => 141 | 212 => 154 | 51 => 155 | 20 => 20 | 213 => 156 | 46 => 115 | 232 => 186 | 233 => 187 | n => n, fun | 17 => 2 | 18 => 3 | 19 => 4 | n => n⟩
theorem Tryz.laysM171 : Go.Proofs.LaysM.n171 Tryz.prog Tryz.laysM171_ren := {
  mixed := by kernel_rfl
  f129 := Tryz.func112.trans (congrArg some (by kernel_rfl))
  f171 := Tryz.func47.trans (congrArg some (by kernel_rfl))
  f243 := Tryz.func65.trans (congrArg some (by kernel_rfl))
  f246 := Tryz.func81.trans (congrArg some (by kernel_rfl))
  f283 := Tryz.func96.trans (congrArg some (by kernel_rfl))
  f284 := Tryz.func97.trans (congrArg some (by kernel_rfl))
  f285 := Tryz.func98.trans (congrArg some (by kernel_rfl))
  f286 := Tryz.func99.trans (congrArg some (by kernel_rfl))
  f317 := Tryz.func111.trans (congrArg some (by kernel_rfl))
  f318 := Tryz.func113.trans (congrArg some (by kernel_rfl))
  f319 := Tryz.func114.trans (congrArg some (by kernel_rfl))
  f320 := Tryz.func115.trans (congrArg some (by kernel_rfl))
  f337 := Tryz.func132.trans (congrArg some (by kernel_rfl))
  f338 := Tryz.func133.trans (congrArg some (by kernel_rfl))
  t0 := Tryz.underlying0
  a0 := Tryz.isAgg0
  z0 := Tryz.sizeOf0
  v0 := Tryz.zeroValue0
  t2 := Tryz.underlying2
  a2 := Tryz.isAgg2
  z2 := Tryz.sizeOf2
  v2 := Tryz.zeroValue2
  t3 := Tryz.underlying3
  a3 := Tryz.isAgg3
  z3 := Tryz.sizeOf3
  v3 := Tryz.zeroValue3
  t4 := Tryz.underlying4
  a4 := Tryz.isAgg4
  z4 := Tryz.sizeOf4
  v4 := Tryz.zeroValue4
  t5 := Tryz.underlying5
  a5 := Tryz.isAgg5
  z5 := Tryz.sizeOf5
  v5 := Tryz.zeroValue5
  t9 := Tryz.underlying9
  a9 := Tryz.isAgg9
  z9 := Tryz.sizeOf9
  v9 := Tryz.zeroValue9
  t20 := Tryz.underlying20
  a20 := Tryz.isAgg20
  z20 := Tryz.sizeOf20
  v20 := Tryz.zeroValue20
  t37 := Tryz.underlying66
  a37 := Tryz.isAgg66
  z37 := Tryz.sizeOf66
  v37 := Tryz.zeroValue66
  t46 := Tryz.underlying115
  a46 := Tryz.isAgg115
  z46 := Tryz.sizeOf115
  v46 := Tryz.zeroValue115
  t51 := Tryz.underlying155
  a51 := Tryz.isAgg155
  z51 := Tryz.sizeOf155
  v51 := Tryz.zeroValue155
  t53 := Tryz.underlying138
  a53 := Tryz.isAgg138
  z53 := Tryz.sizeOf138
  v53 := Tryz.zeroValue138
  t171 := Tryz.underlying137
  a171 := Tryz.isAgg137
  z171 := Tryz.sizeOf137
  v171 := Tryz.zeroValue137
  t173 := Tryz.underlying141
  a173 := Tryz.isAgg141
  z173 := Tryz.sizeOf141
  v173 := Tryz.zeroValue141
  t212 := Tryz.underlying154
  a212 := Tryz.isAgg154
  z212 := Tryz.sizeOf154
  v212 := Tryz.zeroValue154
  t213 := Tryz.underlying156
  a213 := Tryz.isAgg156
  z213 := Tryz.sizeOf156
  t232 := Tryz.underlying186
  a232 := Tryz.isAgg186
  z232 := Tryz.sizeOf186
  v232 := Tryz.zeroValue186
  t233 := Tryz.underlying187
  a233 := Tryz.isAgg187
  z233 := Tryz.sizeOf187
  v233 := Tryz.zeroValue187
  g17 := by kernel_rfl
  g18 := by kernel_rfl
  g19 := by kernel_rfl
  i0 := by kernel_rfl
  i2 := by kernel_rfl
  i3 := by kernel_rfl
  i4 := by kernel_rfl
  i5 := by kernel_rfl
  i9 := by kernel_rfl
  i20 := by kernel_rfl
  i37 := by kernel_rfl
  i46 := by kernel_rfl
  i51 := by kernel_rfl
  i53 := by kernel_rfl
  i171 := by kernel_rfl
  i173 := by kernel_rfl
  i212 := by kernel_rfl
  i232 := by kernel_rfl
  i233 := by kernel_rfl
  m17 := by kernel_rfl
  m18 := by kernel_rfl
  m19 := by kernel_rfl }
open Go.RowKit Go.Sort Go.Lib in
theorem Tryz.strconv_Itoa (n : Int) (h0 : -9223372036854775808 <= n) (h1 : n <= 9223372036854775807) (w : World) (htab : Lib.TabIs Tryz.prog w "internal/strconv.uint64pow10" .u64 Lib.pow10Tab) :
  Calls Tryz.prog 47 #[.int .i64 n] w fun e w' => e = .returned (.string ⟨(Lib.itoa n).toArray⟩) /\ ∃ k os, w' = grow (w.drewN k) os := Any.strconv_Itoa Tryz.laysM171 n h0 h1 w htab
end Go.Proofs
namespace Go.Proofs.YtifoijbpbigaaaaGreatDoor
theorem Xl (n : Int) (h : -9223372036854775808 <= n /\ n <= 9223372036854775807) : Go.IntKind.i64.wrap n = n := Go.IntWalk.i64_in n h
theorem Xm {n : Nat} : n <= n := Nat.le_refl n
theorem Xn {a : Type _} {x : a} {l : List a} {i : Nat} : (x :: l).take (i + 1) = x :: l.take i := List.take_succ_cons
theorem Xo {a : Type _} {l : List a} : l.take 0 = [] := List.take_zero
theorem Xp {a : Type _} {x : a} {l : List a} {i : Nat} : (x :: l).drop (i + 1) = l.drop i := List.drop_succ_cons
theorem Xq {a : Type _} {l : List a} : l.drop 0 = l := List.drop_zero
section
theorem Xk {p : Prop} (h : p) : Go.RowKit.Hid p := Go.Lib.hid h
open Go.RowKit
abbrev Gives (k : Nat) (args : Array Value) (v : Value) : Prop := ∀ w, Calls Tryz.prog k args w fun e w' => e = .returned v /\ Below w.heap.size w w'
abbrev Tells (k : Nat) (args : Array Value) (v : Value) : Prop := ∀ w, Calls Tryz.prog k args w fun e w' => e = .returned v /\ w = w'
theorem qG {W w1 : World} (hb : Below W.heap.size W w1) : (∀ b o, b < W.heap.size -> w1.cell? ⟨b, o, none⟩ = W.cell? ⟨b, o, none⟩) /\ (∀ b o, b < W.heap.size -> w1.frozen? ⟨b, o, none⟩ = W.frozen? ⟨b, o, none⟩) /\ W.heap.size <= w1.heap.size :=
 ⟨fun b o h => hb.cell (p := ⟨b, o, none⟩) h, fun b o h => hb.frozen (p := ⟨b, o, none⟩) h, hb.size⟩
theorem zk {B : Nat} {w W w1 : World} (h : Below B w W) (hB : B <= W.heap.size) (hb : Below W.heap.size W w1) : Below B w w1 := h.trans (hb.mono hB)
theorem zC {k : IntKind} {a b : Int} (h : a = b) : Ending.returned (.int k a) = .returned (.int k b) := by rw [h]
theorem zu {a b : Bool} (h : a = b) : Ending.returned (.bool a) = .returned (.bool b) := by rw [h]
abbrev arr3 (a b c : Int) : Value := .agg #[.int .u8 a, .int .u8 b, .int .u8 c]
end
section
open Go.RowKit
def byt (t : ByteArray) (i : Nat) : Nat := (t.get! i).toNat
theorem qN (t : ByteArray) (i : Nat) : byt t i < 256 := (t.get! i).toNat_lt
theorem get_at (t : ByteArray) (i : Nat) (h : i < t.size) : t.get! i = t[i] := by simp [ByteArray.get!, h]; rfl
def zp (b : Nat) : Nat × Nat × Nat :=
 if b < 128 then (1, 0, 0) else if b < 194 then (0, 0, 0) else if b < 224 then (2, 128, 191) else if b = 224 then (3, 160, 191)
 else if b = 237 then (3, 128, 159) else if b < 240 then (3, 128, 191) else if b = 240 then (4, 144, 191) else if b < 244 then (4, 128, 191) else if b = 244 then (4, 128, 143) else (0, 0, 0)
def goN (t : ByteArray) (n : Nat) : Nat -> Nat -> Nat -> Nat -> Nat -> Nat × Nat
 | 0, _, _, r, _ => (r, n)
 | f + 1, lo, hi, r, i => if i = t.size then (65533, i) else if byt t i < lo \/ hi < byt t i then (65533, i) else goN t n f 128 191 (r * 64 + byt t i % 64) (i + 1)
def decB (t : ByteArray) : Nat × Nat :=
 if (zp (byt t 0)).1 = 0 then (65533, 1) else if (zp (byt t 0)).1 = 1 then (byt t 0, 1)
 else goN t (zp (byt t 0)).1 ((zp (byt t 0)).1 - 1) (zp (byt t 0)).2.1 (zp (byt t 0)).2.2 (byt t 0 % 2 ^ (7 - (zp (byt t 0)).1)) 1
theorem j5 (t : ByteArray) (n f lo hi r i : Nat) (h : i = t.size) : goN t n (f + 1) lo hi r i = (65533, i) := by unfold goN; rw [if_pos h]
theorem j6 (t : ByteArray) (n f lo hi r i : Nat) (h : ¬ i = t.size) (hb : byt t i < lo \/ hi < byt t i) : goN t n (f + 1) lo hi r i = (65533, i) := by unfold goN; rw [if_neg h, if_pos hb]
theorem j7 (t : ByteArray) (n f lo hi r i : Nat) (h : ¬ i = t.size) (hb : ¬ (byt t i < lo \/ hi < byt t i)) : goN t n (f + 1) lo hi r i = goN t n f 128 191 (r * 64 + byt t i % 64) (i + 1) := by
 conv => lhs; unfold goN
 rw [if_neg h, if_neg hb]
theorem vg (b : Nat) : (zp b).1 <= 4 := by unfold zp; repeat' (first | split | decide)
theorem Qu (t : ByteArray) (n : Nat) (hn : n <= 4) : ∀ f lo hi r i, i + f = n -> 1 <= i -> i <= t.size -> r < 2 ^ (21 - 6 * f) ->
  1 <= (goN t n f lo hi r i).2 /\ (goN t n f lo hi r i).2 <= t.size /\ (goN t n f lo hi r i).1 < 2097152 := by
 intro f
 induction f with
 | zero =>
  intro lo hi r i h1 h2 h3 h4
  unfold goN
  refine ⟨by simp; omega, by simp; omega, by simpa using h4⟩
 | succ f ih =>
  intro lo hi r i h1 h2 h3 h4
  by_cases e : i = t.size
  ·rw [j5 _ _ _ _ _ _ _ e]; exact ⟨h2, by simp; omega, by simp⟩
  ·by_cases b : byt t i < lo \/ hi < byt t i
   ·rw [j6 _ _ _ _ _ _ _ e b]; exact ⟨h2, h3, by simp⟩
   ·rw [j7 _ _ _ _ _ _ _ e b]
    refine ih _ _ _ _ (by omega) (by omega) (by omega) ?_
    have hf : f <= 2 := by omega
    have : f = 0 \/ f = 1 \/ f = 2 := by omega
    rcases this with rfl | rfl | rfl <;> simp at h4 ⊢ <;> omega
theorem jG (t : ByteArray) (h : 0 < t.size) : 1 <= (decB t).2 /\ (decB t).2 <= t.size /\ (decB t).1 < 2097152 := by
 unfold decB
 split
 ·exact ⟨by simp, h, by simp⟩
 ·split
  ·exact ⟨by simp, h, by have := qN t 0; simp; omega⟩
  ·have hl := vg (byt t 0)
   refine Qu t _ hl _ _ _ _ _ (by omega) (by decide) h ?_
   have : (zp (byt t 0)).1 = 2 \/ (zp (byt t 0)).1 = 3 \/ (zp (byt t 0)).1 = 4 := by omega
   rcases this with e | e | e <;> rw [e] <;> simp <;> omega
def je : Nat -> ByteArray -> List Int
 | 0, _ => []
 | f + 1, t => if t.size = 0 then [] else ((decB t).1 : Int) :: je f (t.extract (decB t).2 t.size)
theorem Qv : ∀ f g t, t.size <= f -> t.size <= g -> je f t = je g t := by
 intro f
 induction f with
 | zero =>
  intro g t h1 h2
  cases g with
  | zero => rfl
  | succ g => unfold je; rw [if_pos (by omega)]
 | succ f ih =>
  intro g t h1 h2
  cases g with
  | zero => unfold je; rw [if_pos (by omega)]
  | succ g =>
   unfold je
   by_cases z : t.size = 0
   ·rw [if_pos z, if_pos z]
   ·rw [if_neg z, if_neg z]
    have b := jG t (by omega)
    rw [ih g _ (by rw [ByteArray.size_extract]; omega) (by rw [ByteArray.size_extract]; omega)]
def zr (t : ByteArray) : List Int := je t.size t
theorem xv (t : ByteArray) (h : t.size = 0) : zr t = [] := by unfold zr; rw [h]; rfl
theorem xw (t : ByteArray) (h : 0 < t.size) : zr t = ((decB t).1 : Int) :: zr (t.extract (decB t).2 t.size) := by
 obtain ⟨n, hn⟩ : ∃ n, t.size = n + 1 := ⟨t.size - 1, by omega⟩
 have b := jG t h
 unfold zr
 rw [hn]
 conv => lhs; unfold je
 rw [if_neg (by omega), hn]
 rw [Qv n (t.extract (decB t).2 (n + 1)).size _ (by rw [ByteArray.size_extract]; omega) Xm]
theorem xx : ∀ n t, t.size = n -> (zr t).length <= n := by
 intro n
 induction n using Nat.strongRecOn with
 | ind n ih =>
  intro t h
  by_cases z : t.size = 0
  ·rw [xv t z]; simp
  ·rw [xw t (by omega), List.length_cons]
   have b := jG t (by omega)
   have := ih (t.size - (decB t).2) (by omega) (t.extract (decB t).2 t.size) (by rw [ByteArray.size_extract]; omega)
   omega
theorem vh : ∀ n t, t.size = n -> ∀ r ∈ zr t, 0 <= r /\ r < 2097152 := by
 intro n
 induction n using Nat.strongRecOn with
 | ind n ih =>
  intro t h r hr
  by_cases z : t.size = 0
  ·rw [xv t z] at hr; cases hr
  ·rw [xw t (by omega)] at hr
   have b := jG t (by omega)
   rcases List.mem_cons.1 hr with e | e
   ·omega
   ·exact ih (t.size - (decB t).2) (by omega) (t.extract (decB t).2 t.size) (by rw [ByteArray.size_extract]; omega) r e
def zm (r : Int) : Int := if 0 <= r /\ r <= 1114111 /\ (r < 55296 \/ 57343 < r) then r else 65533
def zR (r : Int) : List Int :=
 if zm r < 128 then [zm r]
 else if zm r < 2048 then [192 + zm r / 64, 128 + zm r % 64]
 else if zm r < 65536 then [224 + zm r / 4096, 128 + zm r / 64 % 64, 128 + zm r % 64]
 else [240 + zm r / 262144, 128 + zm r / 4096 % 64, 128 + zm r / 64 % 64, 128 + zm r % 64]
def zi (l : List Int) : List Int := l.flatMap zR
def barr (l : List Int) : ByteArray := ⟨(l.map fun n => UInt8.ofNat n.toNat).toArray⟩
theorem x6 (r : Int) : 0 <= zm r /\ zm r <= 1114111 := by unfold zm; split <;> omega
theorem Qw (r : Int) : ∀ b ∈ zR r, 0 <= b /\ b < 256 := by
 have h := x6 r
 unfold zR
 generalize zm r = c at *
 intro b hb
 repeat' split at hb
 all_goals simp at hb
 all_goals (first | (subst hb; omega) | (rcases hb with rfl | rfl <;> omega) | (rcases hb with rfl | rfl | rfl <;> omega) | (rcases hb with rfl | rfl | rfl | rfl <;> omega))
theorem vi (r : Int) : 1 <= (zR r).length /\ (zR r).length <= 4 := by
 unfold zR
 repeat' split
 all_goals simp
theorem Qx (r : Int) (l : List Int) : zi (r :: l) = zR r ++ zi l := by unfold zi; exact List.flatMap_cons ..
theorem vj (r : Int) (l : List Int) : zi (l ++ [r]) = zi l ++ zR r := by simp [zi]
theorem x7 (l : List Int) : (zi l).length <= 4 * l.length := by
 induction l with
 | nil => simp [zi]
 | cons r l ih => rw [Qx, List.length_append, List.length_cons]; have := vi r; omega
theorem vk (s : ByteArray) (l : List UInt8) : (s.toList == l) = decide (s = ⟨l.toArray⟩) := by
 rw [ByteArray.toList_eq]
 by_cases h : s = ⟨l.toArray⟩
 ·subst h; simp
 ·rw [decide_eq_false h]
  rw [beq_eq_false_iff_ne]
  intro e
  apply h
  apply ByteArray.ext
  rw [<- e, Array.toArray_toList]
theorem xy (s t : ByteArray) : (s.toList == t.toList) = decide (s = t) := by
 rw [vk, ByteArray.toList_eq, Array.toArray_toList]
end
section
open Go.RowKit
def lowK : List (Int × Int × Int) := [
 (0, 31, 1), (127, 159, 1), (169, 169, 8), (174, 174, 8), (768, 879, 2), (1155, 1161, 2), (1425, 1469, 2), (1552, 1562, 2), (1611, 1631, 2), (1750, 1756, 2), (2304, 2306, 2), 
 (2364, 2364, 2), (2369, 2376, 2), (3636, 3642, 2), (3655, 3662, 2), (4352, 4447, 7), (6832, 6862, 2), (7616, 7679, 2), (8203, 8204, 2), (8205, 8205, 3), (8206, 8207, 2), 
 (8234, 8238, 2), (8252, 8252, 8), (8265, 8265, 8), (8288, 8292, 2), (8400, 8432, 2), (8482, 8482, 8), (8592, 8703, 8)]
def midK : List (Int × Int × Int) := [
 (8960, 8985, 8), (8986, 8987, 7), (8988, 9192, 8), (9193, 9196, 7), (9197, 9215, 8), (9725, 9726, 7), (9728, 9747, 8), (9748, 9749, 7), (9750, 9799, 8), (9800, 9811, 7), 
 (9812, 9888, 8), (9889, 9889, 7), (9890, 9897, 8), (9898, 9899, 7), (9900, 9916, 8), (9917, 9918, 7), (9919, 9939, 8), (9940, 9940, 7), (9941, 9969, 8), (9970, 9973, 7), 
 (9974, 9988, 8), (9989, 9989, 7), (9990, 9993, 8), (9994, 9995, 7), (9996, 10023, 8), (10024, 10024, 7), (10025, 10059, 8), (10060, 10060, 7), (10061, 10066, 8), 
 (10067, 10071, 7), (10072, 10132, 8), (10133, 10135, 7), (10136, 10175, 8)]
def jH : List (Int × Int × Int) := [
 (11904, 12350, 7), (12353, 19903, 7), (19968, 42191, 7), (43360, 43388, 7), (44032, 55203, 7), (55296, 57343, 0), (63744, 64255, 7), (65024, 65039, 4), (65056, 65071, 2), 
 (65072, 65135, 7), (65279, 65279, 2), (65281, 65376, 7), (65504, 65510, 7), (127462, 127487, 6), (127744, 127994, 7), (127995, 127999, 5), (128000, 128591, 7), 
 (128640, 128767, 7), (129280, 129535, 7), (131072, 196605, 7), (196608, 262141, 7), (917536, 917631, 2), (917760, 917999, 2)]
def qy : List (Int × Int × Int) -> Int -> Int
 | [], _ => 9
 | (a, e, c) :: l, r => if a <= r /\ r <= e then c else qy l r
def za (r : Int) : Int :=
 if r < 0 \/ 1114111 < r then 0 else if 32 <= r /\ r < 127 then 9 else qy (if 10175 < r then jH else if 8960 <= r then midK else lowK) r
def told0 : List (Int × Int) := [
  (55296, 57343)]
def told1 : List (Int × Int) := [
  (0, 31), (127, 159)]
def told2 : List (Int × Int) := [
  (768, 879), (1155, 1161), (1425, 1469), (1552, 1562), (1611, 1631), (1750, 1756), (2304, 2306), (2364, 2364), (2369, 2376), (3636, 3642), (3655, 3662), (6832, 6862), 
  (7616, 7679), (8203, 8204), (8206, 8207), (8234, 8238), (8288, 8292), (8400, 8432), (65056, 65071), (65279, 65279), (917536, 917631), (917760, 917999)]
def told3 : List (Int × Int) := [
  (8205, 8205)]
def told4 : List (Int × Int) := [
  (65024, 65039)]
def told5 : List (Int × Int) := [
  (127995, 127999)]
def told6 : List (Int × Int) := [
  (127462, 127487)]
def told7 : List (Int × Int) := [
  (4352, 4447), (8986, 8987), (9193, 9196), (9725, 9726), (9748, 9749), (9800, 9811), (9889, 9889), (9898, 9899), (9917, 9918), (9940, 9940), (9970, 9973), (9989, 9989), 
  (9994, 9995), (10024, 10024), (10060, 10060), (10067, 10071), (10133, 10135), (11904, 12350), (12353, 19903), (19968, 42191), (43360, 43388), (44032, 55203), (63744, 64255), 
  (65072, 65135), (65281, 65376), (65504, 65510), (127744, 127994), (128000, 128591), (128640, 128767), (129280, 129535), (131072, 196605), (196608, 262141)]
def told8 : List (Int × Int) := [
  (169, 169), (174, 174), (8252, 8252), (8265, 8265), (8482, 8482), (8592, 8703), (8960, 8985), (8988, 9192), (9197, 9215), (9728, 9747), (9750, 9799), (9812, 9888), (9890, 9897), 
  (9900, 9916), (9919, 9939), (9941, 9969), (9974, 9988), (9990, 9993), (9996, 10023), (10025, 10059), (10061, 10066), (10072, 10132), (10136, 10175)]
def zT : Nat -> List (Int × Int)
 | 0 => told0
 | 1 => told1
 | 2 => told2
 | 3 => told3
 | 4 => told4
 | 5 => told5
 | 6 => told6
 | 7 => told7
 | 8 => told8
 | _ => []
def zU (l : List (Int × Int)) (r : Int) : Nat := (List.range l.length).countP fun i => !decide (r <= (l.getD i (0, 0)).2)
def qH (l : List (Int × Int)) (r : Int) : Bool := decide (zU l r < l.length) && decide ((l.getD (zU l r) (0, 0)).1 <= r)
def zX (r : Int) : Nat -> Nat -> Int
 | 0, _ => 9
 | f + 1, c => if qH (zT c) r = true then (c : Int) else zX r f (c + 1)
def jr (r : Int) : Int := if r < 0 \/ 1114111 < r then 0 else zX r 9 0
def bpK : List Int := [
 0, 32, 127, 160, 169, 170, 174, 175, 768, 880, 1155, 1162, 1425, 1470, 1552, 1563, 1611, 1632, 1750, 1757, 2304, 2307, 2364, 2365, 2369, 2377, 3636, 3643, 3655, 3663, 4352, 4448, 
 6832, 6863, 7616, 7680, 8203, 8205, 8206, 8208, 8234, 8239, 8252, 8253, 8265, 8266, 8288, 8293, 8400, 8433, 8482, 8483, 8592, 8704, 8960, 8986, 8988, 9193, 9197, 9216, 9725, 9727, 
 9728, 9748, 9750, 9800, 9812, 9889, 9890, 9898, 9900, 9917, 9919, 9940, 9941, 9970, 9974, 9989, 9990, 9994, 9996, 10024, 10025, 10060, 10061, 10067, 10072, 10133, 10136, 10176, 
 11904, 12351, 12353, 19904, 19968, 42192, 43360, 43389, 44032, 55204, 55296, 57344, 63744, 64256, 65024, 65040, 65056, 65072, 65136, 65279, 65280, 65281, 65377, 65504, 65511, 
 127462, 127488, 127744, 127995, 128000, 128592, 128640, 128768, 129280, 129536, 131072, 196606, 196608, 262142, 917536, 917632, 917760, 918000, 1114112]
theorem vl (r : Int) (hr : 0 <= r) : ∀ B : List Int, ∃ b ∈ 0 :: B, b <= r /\ ∀ x ∈ B, x <= r -> x <= b
 | [] => ⟨0, by simp, hr, by simp⟩
 | y :: B => by
  obtain ⟨b, hb, h1, h2⟩ := vl r hr B
  by_cases hy : y <= r /\ b < y
  ·exact ⟨y, by simp, hy.1, fun x hx hxr => by
    rcases List.mem_cons.1 hx with rfl | hx
    ·exact Int.le_refl _
    ·have := h2 x hx hxr; omega⟩
  ·refine ⟨b, by rcases List.mem_cons.1 hb with rfl | hb <;> simp [*], h1, fun x hx hxr => ?_⟩
   rcases List.mem_cons.1 hx with rfl | hx
   ·omega
   ·exact h2 x hx hxr
def Near (b r : Int) : Prop := b <= r /\ ∀ x ∈ bpK, x <= r -> x <= b
theorem Near.le {b r x : Int} (h : Near b r) (hx : x ∈ bpK) : x <= r ↔ x <= b := ⟨h.2 x hx, fun y => Int.le_trans y h.1⟩
theorem vm (b r : Int) (h : Near b r) : ∀ l : List (Int × Int × Int), (∀ p ∈ l, p.1 ∈ bpK /\ p.2.1 + 1 ∈ bpK) -> qy l r = qy l b
 | [], _ => rfl
 | (a, e, c) :: l, hl => by
  have q := hl (a, e, c) (by simp)
  have h1 := h.le q.1
  have h2 := h.le q.2
  simp only at h1 h2
  unfold qy
  rw [vm b r h l (fun p hp => hl p (by simp [hp]))]
  have z : (a <= r /\ r <= e) ↔ (a <= b /\ b <= e) := by omega
  simp only [z]
theorem Qy (b r : Int) (h : Near b r) (l : List (Int × Int)) (hl : ∀ p ∈ l, p.1 ∈ bpK /\ p.2 + 1 ∈ bpK) : zU l r = zU l b := by
 unfold zU
 refine List.countP_congr fun i hi => ?_
 have lt : i < l.length := List.mem_range.1 hi
 have e : l.getD i (0, 0) = l[i] := by simp [lt]
 rw [e]
 have h2 := h.le (hl l[i] (List.getElem_mem _)).2
 have : r <= l[i].2 ↔ b <= l[i].2 := by omega
 simp only [this]
theorem Qz (b r : Int) (h : Near b r) (l : List (Int × Int)) (hl : ∀ p ∈ l, p.1 ∈ bpK /\ p.2 + 1 ∈ bpK) : qH l r = qH l b := by
 unfold qH
 rw [Qy b r h l hl]
 by_cases lt : zU l b < l.length
 ·have e : l.getD (zU l b) (0, 0) = l[zU l b] := by simp [lt]
  rw [e]
  have h1 := h.le (hl l[zU l b] (List.getElem_mem _)).1
  simp only [h1]
 ·simp [lt]
theorem bp_of : (∀ p ∈ lowK ++ midK ++ jH, p.1 ∈ bpK /\ p.2.1 + 1 ∈ bpK) /\ (∀ c : Fin 9, ∀ p ∈ zT c.val, p.1 ∈ bpK /\ p.2 + 1 ∈ bpK) /\ (0 ∈ bpK /\ 32 ∈ bpK /\ 127 ∈ bpK /\ 8960 ∈ bpK /\ 10176 ∈ bpK /\ 1114112 ∈ bpK) := by decide +kernel
theorem vn (b r : Int) (h : Near b r) : ∀ f c, c + f <= 9 -> zX r f c = zX b f c
 | 0, _, _ => rfl
 | f + 1, c, hc => by
  unfold zX
  rw [vn b r h f (c + 1) (by omega), Qz b r h (zT c) (bp_of.2.1 ⟨c, by omega⟩)]
theorem kinds_bp : ∀ b ∈ bpK, za b = jr b := by decide +kernel
theorem vo (r : Int) : za r = jr r := by
 by_cases h0 : r < 0 \/ 1114111 < r
 ·unfold za jr
  rw [if_pos h0, if_pos h0]
 ·obtain ⟨b, hb, hb1, hb2⟩ := vl r (by omega) bpK
  have hbm : b ∈ bpK := by
   rcases List.mem_cons.1 hb with e | e
   ·rw [e]; exact bp_of.2.2.1
   ·exact e
  have n : Near b r := ⟨hb1, hb2⟩
  obtain ⟨z0, z1, z2, z3, z4, z5⟩ := bp_of.2.2
  have w0 := n.le z0
  have w1 := n.le z1
  have w2 := n.le z2
  have w3 := n.le z3
  have w4 := n.le z4
  have w5 := n.le z5
  have e1 : za r = za b := by
   unfold za
   have n0 : ¬ (b < 0 \/ 1114111 < b) := by omega
   rw [if_neg h0, if_neg n0]
   have s1 : (32 <= r /\ r < 127) ↔ (32 <= b /\ b < 127) := by omega
   have s2 : 10175 < r ↔ 10175 < b := by omega
   have s3 : 8960 <= r ↔ 8960 <= b := by omega
   simp only [s1, s2, s3]
   rw [vm b r n _ (fun p hp => by
    refine bp_of.1 p ?_
    split at hp
    ·simp [hp]
    ·split at hp <;> simp [hp])]
  have e2 : jr r = jr b := by
   unfold jr
   rw [if_neg h0, if_neg (by omega), vn b r n 9 0 (by decide)]
  rw [e1, e2, kinds_bp b hbm]
theorem QA : ∀ c : Fin 9, ∀ i : Fin 40, ∀ j : Fin 40, i.val <= j.val -> j.val < (zT c.val).length -> ((zT c.val).getD i.val (0, 0)).2 <= ((zT c.val).getD j.val (0, 0)).2 := by decide +kernel
theorem told_len : ∀ c : Fin 9, (zT c.val).length <= 40 := by decide +kernel
end
section
open Go.RowKit
def picK (k : Int) : Bool := decide (k = 7) || decide (k = 8)
def z6 (base ahead next : Int) : Bool :=
 if za next = 2 \/ za next = 4 \/ za next = 3 then true
 else if za next = 5 then picK base
 else if za next = 7 \/ za next = 8 then picK base && decide (za ahead = 3)
 else false
def zA (l : List Int) (base : Int) : Nat -> Nat -> Nat
 | 0, n => n
 | f + 1, n => if n < l.length /\ z6 base (l.getD (n - 1) 0) (l.getD n 0) = true then zA l base f (n + 1) else n
def zV (l : List Int) : Nat := if za (l.getD 0 0) = 6 /\ 1 < l.length /\ za (l.getD 1 0) = 6 then 2 else 1
def zl (l : List Int) : Nat := if za (l.getD 0 0) = 1 then 1 else zA l (za (l.getD 0 0)) (16 - zV l) (zV l)
def qA (l : List Int) : Int :=
 if za (l.getD 0 0) = 1 \/ za (l.getD 0 0) = 2 \/ za (l.getD 0 0) = 4 \/ za (l.getD 0 0) = 3 then 0
 else if za (l.getD 0 0) = 7 \/ za (l.getD 0 0) = 5 then 2
 else if za (l.getD 0 0) = 8 then (if 1 < l.length /\ l.getD 1 0 = 65039 then 2 else 1)
 else if za (l.getD 0 0) = 6 then (if 1 < l.length /\ za (l.getD 1 0) = 6 then 2 else 1)
 else 1
theorem vp (l : List Int) (base : Int) (f n : Nat) (h : ¬ (n < l.length /\ z6 base (l.getD (n - 1) 0) (l.getD n 0) = true)) : zA l base f n = n := by
 cases f with
 | zero => rfl
 | succ f => unfold zA; rw [if_neg h]
theorem vq (l : List Int) (base : Int) (f n : Nat) (h : n < l.length /\ z6 base (l.getD (n - 1) 0) (l.getD n 0) = true) : zA l base (f + 1) n = zA l base f (n + 1) := by
 conv => lhs; unfold zA
 rw [if_pos h]
theorem vr (l : List Int) (base : Int) : ∀ f n, n <= l.length -> n <= zA l base f n /\ zA l base f n <= l.length /\ zA l base f n <= n + f := by
 intro f
 induction f with
 | zero => intro n h; unfold zA; omega
 | succ f ih =>
  intro n h
  by_cases c : n < l.length /\ z6 base (l.getD (n - 1) 0) (l.getD n 0) = true
  ·rw [vq l base f n c]; have := ih (n + 1) (by omega); omega
  ·rw [vp l base (f + 1) n c]; omega
theorem jI (l : List Int) (h : l ≠ []) : 1 <= zl l /\ zl l <= l.length /\ zl l <= 16 := by
 have hp := List.length_pos_iff.2 h
 unfold zl
 split
 ·omega
 ·have hb : 1 <= zV l /\ zV l <= l.length /\ zV l <= 2 := by
   unfold zV
   split
   ·rename_i c; omega
   ·omega
  have := vr l (za (l.getD 0 0)) (16 - zV l) (zV l) hb.2.1
  omega
def clF : Nat -> List Int -> List (List Int × Int)
 | 0, _ => []
 | f + 1, l => if l = [] then [] else (zi (l.take (zl l)), qA (l.take (zl l))) :: clF f (l.drop (zl l))
theorem clF_more : ∀ f g l, l.length <= f -> l.length <= g -> clF f l = clF g l := by
 intro f
 induction f with
 | zero =>
  intro g l h1 h2
  have e : l = [] := List.length_eq_zero_iff.1 (by omega)
  cases g with
  | zero => rfl
  | succ g => unfold clF; rw [if_pos e]
 | succ f ih =>
  intro g l h1 h2
  cases g with
  | zero =>
   have e : l = [] := List.length_eq_zero_iff.1 (by omega)
   unfold clF; rw [if_pos e]
  | succ g =>
   unfold clF
   by_cases z : l = []
   ·rw [if_pos z, if_pos z]
   ·rw [if_neg z, if_neg z]
    have b := jI l z
    rw [ih g _ (by rw [List.length_drop]; omega) (by rw [List.length_drop]; omega)]
def clL (l : List Int) : List (List Int × Int) := clF l.length l
theorem x8 : clL [] = [] := rfl
theorem x9 (l : List Int) (h : l ≠ []) : clL l = (zi (l.take (zl l)), qA (l.take (zl l))) :: clL (l.drop (zl l)) := by
 have hp := List.length_pos_iff.2 h
 obtain ⟨n, hn⟩ : ∃ n, l.length = n + 1 := ⟨l.length - 1, by omega⟩
 have b := jI l h
 unfold clL
 rw [hn]
 conv => lhs; unfold clF
 rw [if_neg h]
 rw [clF_more n (l.drop (zl l)).length _ (by rw [List.length_drop]; omega) Xm]
theorem clL_len : ∀ n l, l.length = n -> (clL l).length <= n := by
 intro n
 induction n using Nat.strongRecOn with
 | ind n ih =>
  intro l h
  by_cases z : l = []
  ·subst z; simp [x8]
  ·rw [x9 l z, List.length_cons]
   have b := jI l z
   have := ih (l.length - zl l) (by omega) (l.drop (zl l)) (by rw [List.length_drop])
   omega
def zx (s : ByteArray) : List (ByteArray × Int) := (clL (zr s)).map fun c => (barr c.1, c.2)
theorem jJ (s : ByteArray) : (zx s).length <= s.size := by
 unfold zx
 rw [List.length_map]
 have := clL_len _ (zr s) rfl
 have := xx _ s rfl
 omega
def qO (l : List Int) : Int :=
 if za (l.getD 0 0) = 1 then 0
 else if za (l.getD 0 0) = 8 /\ 1 < l.length /\ l.getD 1 0 = 65039 then 2
 else if za (l.getD 0 0) = 6 /\ 1 < l.length /\ za (l.getD 1 0) = 6 then 2
 else if za (l.getD 0 0) = 2 \/ za (l.getD 0 0) = 4 \/ za (l.getD 0 0) = 3 then 0
 else if za (l.getD 0 0) = 7 \/ za (l.getD 0 0) = 5 then 2
 else 1
theorem QB : za 65039 = 4 := by decide +kernel
theorem QC (l : List Int) (h : l ≠ []) : qA (l.take (zl l)) = qO l := by
 have b := jI l h
 have e0 : (l.take (zl l)).getD 0 0 = l.getD 0 0 := by
  simp [List.getD_eq_getElem?_getD, show 0 < zl l by omega]
 have len : (l.take (zl l)).length = zl l := by rw [List.length_take]; omega
 have e1 : 1 < zl l -> (l.take (zl l)).getD 1 0 = l.getD 1 0 := by
  intro z
  simp [List.getD_eq_getElem?_getD, z]
 have hp := List.length_pos_iff.2 h
 unfold qA qO
 rw [e0, len]
 have FC : zl l = if za (l.getD 0 0) = 1 then 1 else zA l (za (l.getD 0 0)) (16 - zV l) (zV l) := rfl
 have BK : zV l = if za (l.getD 0 0) = 6 /\ 1 < l.length /\ za (l.getD 1 0) = 6 then 2 else 1 := rfl
 have GG : ∀ f n, n <= l.length -> n <= zA l (za (l.getD 0 0)) f n := fun f n hn => (vr l _ f n hn).1
 have GS : 1 < l.length -> l.getD 1 0 = 65039 -> zA l (za (l.getD 0 0)) 15 1 = zA l (za (l.getD 0 0)) 14 2 := fun h1 h2 => vq l _ 14 1 ⟨h1, by
  unfold z6
  rw [h2, QB]
  simp⟩
 generalize za (l.getD 0 0) = k at *
 generalize (l.take (zl l)).getD 1 0 = q1 at *
 generalize l.getD 1 0 = q at *
 by_cases k1 : k = 1
 ·rw [if_pos (Or.inl k1), if_pos k1]
 rw [if_neg k1] at FC
 by_cases k8 : k = 8
 ·rw [if_neg (by omega), if_neg (by omega), if_pos k8, if_neg k1]
  rw [if_neg (by omega)] at BK
  rw [BK] at FC
  by_cases c : 1 < l.length /\ q = 65039
  ·rw [if_pos (⟨k8, c⟩ : k = 8 /\ 1 < l.length /\ q = 65039)]
   have g : 1 < zl l := by
    rw [FC]
    have h1 := GS c.1 c.2
    have h2 := GG 14 2 (by omega)
    show 1 < zA l k 15 1
    omega
   rw [if_pos ⟨g, by rw [e1 g]; exact c.2⟩]
  ·have n1 : ¬ (1 < zl l /\ q1 = 65039) := fun z => c ⟨by omega, by rw [<- e1 z.1]; exact z.2⟩
   rw [if_neg n1, if_neg (show ¬ (k = 8 /\ 1 < l.length /\ q = 65039) from fun z => c z.2), if_neg (show ¬ (k = 6 /\ 1 < l.length /\ za q = 6) by omega), if_neg (by omega), if_neg (by omega)]
 by_cases k6 : k = 6
 ·rw [if_neg (by omega), if_neg (by omega), if_neg k8, if_pos k6, if_neg k1, if_neg (show ¬ (k = 8 /\ 1 < l.length /\ q = 65039) from fun z => k8 z.1)]
  by_cases c : 1 < l.length /\ za q = 6
  ·rw [if_pos (⟨k6, c⟩ : k = 6 /\ 1 < l.length /\ za q = 6)]
   rw [if_pos ⟨k6, c⟩] at BK
   rw [BK] at FC
   have g : 1 < zl l := by
    rw [FC]
    have h2 := GG 14 2 (by omega)
    show 1 < zA l k 14 2
    omega
   rw [if_pos ⟨g, by rw [e1 g]; exact c.2⟩]
  ·have n1 : ¬ (1 < zl l /\ za q1 = 6) := fun z => c ⟨by omega, by rw [<- e1 z.1]; exact z.2⟩
   rw [if_neg n1, if_neg (show ¬ (k = 6 /\ 1 < l.length /\ za q = 6) from fun z => c z.2), if_neg (by omega), if_neg (by omega)]
 ·rw [if_neg k1, if_neg (show ¬ (k = 8 /\ 1 < l.length /\ q = 65039) from fun z => k8 z.1), if_neg (show ¬ (k = 6 /\ 1 < l.length /\ za q = 6) from fun z => k6 z.1)]
  by_cases c2 : k = 2 \/ k = 4 \/ k = 3
  ·rw [if_pos (Or.inr c2), if_pos c2]
  ·rw [if_neg (show ¬ (k = 1 \/ k = 2 \/ k = 4 \/ k = 3) by omega), if_neg c2]
   by_cases c7 : k = 7 \/ k = 5
   ·rw [if_pos c7, if_pos c7]
   ·rw [if_neg c7, if_neg c7, if_neg k8, if_neg k6]
end
section
structure RwT where
 lo : Nat
 hi : Nat
 n : Nat
 lo2 : Nat
 hi2 : Nat
 off : Nat
def zY : List RwT := [⟨0, 127, 1, 0, 0, 0⟩, ⟨194, 223, 2, 128, 191, 192⟩, ⟨224, 224, 3, 160, 191, 224⟩, ⟨225, 236, 3, 128, 191, 224⟩, ⟨238, 239, 3, 128, 191, 224⟩, ⟨237, 237, 3, 128, 159, 224⟩, ⟨240, 240, 4, 144, 191, 240⟩, ⟨241, 243, 4, 128, 191, 240⟩, ⟨244, 244, 4, 128, 143, 240⟩]
def loR (x : RwT) (k : Nat) : Nat := if k = 1 then x.lo2 else 128
def hiR (x : RwT) (k : Nat) : Nat := if k = 1 then x.hi2 else 191
def zv (t : ByteArray) (x : RwT) : Nat -> Nat -> Nat
 | 0, k => k
 | f + 1, k => if k < x.n /\ k < t.size then (if byt t k < loR x k \/ hiR x k < byt t k then k else zv t x f (k + 1)) else k
def zG (t : ByteArray) (x : RwT) : Nat := if t.size = 0 \/ byt t 0 < x.lo \/ x.hi < byt t 0 then 0 else zv t x 4 1
def valF (t : ByteArray) : Nat -> Nat -> Int -> Int
 | 0, _, r => r
 | f + 1, j, r => valF t f (j + 1) (r * 64 + (byt t j : Int) - 128)
def qi (t : ByteArray) : List RwT -> Int × Nat
 | [] => (65533, 1)
 | x :: l => if zG t x = 0 then qi t l else if zG t x < x.n then (65533, zG t x) else (valF t (zG t x - 1) 1 ((byt t 0 : Int) - x.off), zG t x)
theorem kc (t : ByteArray) (x : RwT) : ∀ f k, k <= zv t x f k
 | 0, k => Xm
 | f + 1, k => by
  unfold zv
  split
  ·split
   ·exact Xm
   ·exact Nat.le_trans (Nat.le_succ _) (kc t x f (k + 1))
  ·exact Xm
theorem vt (t : ByteArray) (x : RwT) : ∀ f k, k <= t.size -> k <= x.n -> zv t x f k <= t.size /\ zv t x f k <= x.n
 | 0, k, h, h2 => ⟨h, h2⟩
 | f + 1, k, h, h2 => by
  unfold zv
  split
  ·rename_i c
   split
   ·exact ⟨h, h2⟩
   ·exact vt t x f (k + 1) (by omega) (by omega)
  ·exact ⟨h, h2⟩
theorem vu (t : ByteArray) (x : RwT) (h2 : 128 <= x.lo2 /\ x.hi2 <= 191) : ∀ (f i r F : Nat), i + f = x.n -> 1 <= i -> i <= t.size -> f <= F ->
  (if zv t x F i < x.n then ((65533 : Int), zv t x F i) else (valF t (zv t x F i - i) i (r : Int), zv t x F i)) = ((((goN t x.n f (loR x i) (hiR x i) r i).1 : Nat) : Int), (goN t x.n f (loR x i) (hiR x i) r i).2)
 | 0, i, r, F, h, h1, hs, hF => by
  have k : zv t x F i = i := by
   cases F with
   | zero => rfl
   | succ F => unfold zv; rw [if_neg (by omega)]
  rw [k, if_neg (by omega), Nat.sub_self]
  unfold goN valF
  simp only [Prod.mk.injEq, true_and]
  omega
 | f + 1, i, r, F, h, h1, hs, hF => by
  obtain ⟨G, rfl⟩ : ∃ G, F = G + 1 := ⟨F - 1, by omega⟩
  by_cases e : i = t.size
  ·have k : zv t x (G + 1) i = i := by unfold zv; rw [if_neg (by omega)]
   rw [j5 _ _ _ _ _ _ _ e, k, if_pos (by omega)]
   rfl
  ·by_cases b : byt t i < loR x i \/ hiR x i < byt t i
   ·have k : zv t x (G + 1) i = i := by unfold zv; rw [if_pos (by omega), if_pos b]
    rw [j6 _ _ _ _ _ _ _ e b, k, if_pos (by omega)]
    rfl
   ·have k : zv t x (G + 1) i = zv t x G (i + 1) := by
     conv => lhs; unfold zv
     rw [if_pos (by omega), if_neg b]
    have ge := kc t x G (i + 1)
    have ih := vu t x h2 f (i + 1) (r * 64 + byt t i % 64) G (by omega) (by omega) (by omega) (by omega)
    have l1 : loR x (i + 1) = 128 := by unfold loR; rw [if_neg (by omega)]
    have l2 : hiR x (i + 1) = 191 := by unfold hiR; rw [if_neg (by omega)]
    have bb : 128 <= byt t i /\ byt t i <= 191 := by
     unfold loR hiR at b
     split at b <;> omega
    rw [l1, l2] at ih
    rw [j7 _ _ _ _ _ _ _ e b, <- ih, k]
    have v : valF t (zv t x G (i + 1) - i) i (r : Int) = valF t (zv t x G (i + 1) - (i + 1)) (i + 1) (((r * 64 + byt t i % 64 : Nat)) : Int) := by
     rw [show zv t x G (i + 1) - i = (zv t x G (i + 1) - (i + 1)) + 1 by omega]
     conv => lhs; unfold valF
     congr 1
     omega
    rw [v]
theorem fits_no {t : ByteArray} {x : RwT} (h : byt t 0 < x.lo \/ x.hi < byt t 0) : zG t x = 0 := by unfold zG; rw [if_pos (Or.inr h)]
theorem vv {t : ByteArray} {x : RwT} (hs : 0 < t.size) (h : ¬ (byt t 0 < x.lo \/ x.hi < byt t 0)) : zG t x = zv t x 4 1 /\ 1 <= zG t x := by
 have e : zG t x = zv t x 4 1 := by
  unfold zG
  rw [if_neg]
  rintro (z | z)
  ·omega
  ·exact h z
 exact ⟨e, by rw [e]; exact kc t x 4 1⟩
theorem qP {t : ByteArray} {x : RwT} {l : List RwT} (h : byt t 0 < x.lo \/ x.hi < byt t 0) : qi t (x :: l) = qi t l := by rw [qi, if_pos (fits_no h)]
theorem jf {t : ByteArray} {x : RwT} {l : List RwT} (hs : 0 < t.size) (h : ¬ (byt t 0 < x.lo \/ x.hi < byt t 0)) (h2 : 128 <= x.lo2 /\ x.hi2 <= 191) (hn : 1 <= x.n /\ x.n <= 5) (ho : x.off <= byt t 0) :
  qi t (x :: l) = ((((goN t x.n (x.n - 1) x.lo2 x.hi2 (byt t 0 - x.off) 1).1 : Nat) : Int), (goN t x.n (x.n - 1) x.lo2 x.hi2 (byt t 0 - x.off) 1).2) := by
 obtain ⟨e, p⟩ := vv hs h
 have g := vu t x h2 (x.n - 1) 1 (byt t 0 - x.off) 4 (by omega) Xm hs (by omega)
 rw [show loR x 1 = x.lo2 from if_pos rfl, show hiR x 1 = x.hi2 from if_pos rfl] at g
 rw [qi, if_neg (by omega), e, <- g]
 congr 3
 omega
theorem scan_dec (t : ByteArray) (hs : 0 < t.size) : qi t zY = ((((decB t).1 : Nat) : Int), (decB t).2) := by
 have b8 := qN t 0
 unfold zY decB zp
 by_cases c1 : byt t 0 < 128
 ·rw [if_pos c1, if_neg (by decide), if_pos rfl, qi]
  have e : zG t ⟨0, 127, 1, 0, 0, 0⟩ = 1 := by
   rw [(vv hs (by show ¬ (byt t 0 < 0 \/ 127 < byt t 0); omega)).1]
   unfold zv
   rw [if_neg (by show ¬ (1 < 1 /\ _); omega)]
  rw [e, if_neg (by decide), if_neg (by decide)]
  show ((byt t 0 : Int) - (0 : Nat), 1) = _
  simp
 rw [if_neg c1, qP (by show byt t 0 < 0 \/ 127 < byt t 0; omega)]
 by_cases c2 : byt t 0 < 194
 ·rw [if_pos c2, if_pos rfl]
  iterate 8 rw [qP (by dsimp only; omega)]
  rfl
 rw [if_neg c2]
 by_cases c3 : byt t 0 < 224
 ·rw [if_pos c3, if_neg (by decide), if_neg (by decide), jf hs (by dsimp only; omega) (by decide) (by decide) (by dsimp only; omega)]
  have e : byt t 0 - 192 = byt t 0 % 2 ^ (7 - 2) := by omega
  simp only [e]
 rw [if_neg c3, qP (by dsimp only; omega)]
 by_cases c4 : byt t 0 = 224
 ·rw [if_pos c4, if_neg (by decide), if_neg (by decide), jf hs (by dsimp only; omega) (by decide) (by decide) (by dsimp only; omega)]
  have e : byt t 0 - 224 = byt t 0 % 2 ^ (7 - 3) := by omega
  simp only [e]
 rw [if_neg c4, qP (by dsimp only; omega)]
 by_cases c5 : byt t 0 = 237
 ·rw [if_pos c5, if_neg (by decide), if_neg (by decide)]
  iterate 2 rw [qP (by dsimp only; omega)]
  rw [jf hs (by dsimp only; omega) (by decide) (by decide) (by dsimp only; omega)]
  have e : byt t 0 - 224 = byt t 0 % 2 ^ (7 - 3) := by omega
  simp only [e]
 rw [if_neg c5]
 by_cases c6 : byt t 0 < 240
 ·rw [if_pos c6, if_neg (by decide), if_neg (by decide)]
  have e : byt t 0 - 224 = byt t 0 % 2 ^ (7 - 3) := by omega
  by_cases d : byt t 0 <= 236
  ·rw [jf hs (by dsimp only; omega) (by decide) (by decide) (by dsimp only; omega)]
   simp only [e]
  ·rw [qP (by dsimp only; omega), jf hs (by dsimp only; omega) (by decide) (by decide) (by dsimp only; omega)]
   simp only [e]
 rw [if_neg c6]
 iterate 3 rw [qP (by dsimp only; omega)]
 by_cases c7 : byt t 0 = 240
 ·rw [if_pos c7, if_neg (by decide), if_neg (by decide), jf hs (by dsimp only; omega) (by decide) (by decide) (by dsimp only; omega)]
  have e : byt t 0 - 240 = byt t 0 % 2 ^ (7 - 4) := by omega
  simp only [e]
 rw [if_neg c7, qP (by dsimp only; omega)]
 by_cases c8 : byt t 0 < 244
 ·rw [if_pos c8, if_neg (by decide), if_neg (by decide), jf hs (by dsimp only; omega) (by decide) (by decide) (by dsimp only; omega)]
  have e : byt t 0 - 240 = byt t 0 % 2 ^ (7 - 4) := by omega
  simp only [e]
 rw [if_neg c8, qP (by dsimp only; omega)]
 by_cases c9 : byt t 0 = 244
 ·rw [if_pos c9, if_neg (by decide), if_neg (by decide), jf hs (by dsimp only; omega) (by decide) (by decide) (by dsimp only; omega)]
  have e : byt t 0 - 240 = byt t 0 % 2 ^ (7 - 4) := by omega
  simp only [e]
 rw [if_neg c9, if_pos rfl, qP (by dsimp only; omega)]
 rfl
end
section
open Go Go.Sort Go.RowKit
section
variable {P : Program} {ops : Array Oper} {md : Region.Mode} {C : World -> Prop}
def HeadQ (P : Program) (md : Region.Mode) (ops : Array Oper) (C : World -> Prop) (n : Nat) (L : Array Bool -> Act -> Prop) : Nat -> Array Bool -> Act -> Prop
 | 0, d, a => L d a
 | f + 1, d, a => Region.ready md ops d ≠ [] /\ ∀ i, i ∈ Region.ready md ops d -> i < n /\ qOp P ops C i (fun a' => HeadQ P md ops C n L f (d.setIfInBounds i true) a') a
theorem HeadQ.any {n g : Nat} {L : Array Bool -> Act -> Prop} {Q' : Exit -> Act -> World -> Prop} (tl : ∀ d a w, C w -> L d a -> wpAny P md ops Q' g d a w) (f : Nat) :
  ∀ (d : Array Bool) (a : Act) (w : World), C w -> HeadQ P md ops C n L f d a -> wpAny P md ops Q' (f + g) d a w := by
 induction f with
 | zero => intro d a w hw h; rw [Nat.zero_add]; exact tl d a w hw h
 | succ f ih =>
  intro d a w hw h
  have e : f + 1 + g = (f + g) + 1 := by omega
  rw [e]
  refine ⟨fun z => absurd z h.1, fun i hi => ?_⟩
  exact wpOp_of_qOp hw (fun a' w' hw' k => ih _ a' w' hw' k) (h.2 i hi).2
theorem HeadQ.first {n i : Nat} {oi : Oper} {v : Value} {L : Array Bool -> Act -> Prop} (hi : ops[i]? = some oi) (nosel : ∀ (j : Nat) (o : Oper) cs b, ops[j]? = some o -> o.op ≠ .select cs b)
  (sink : Region.sinkB md ops n = true) (chain : Region.chainB md ops n = true) (hn : n < ops.size) (hin : i < n) (late : ∀ d a, L d a -> ∀ j ∈ Region.ready md ops d, n <= j) (f : Nat) :
  ∀ (d : Array Bool) (a : Act), HeadInv md ops n d ->
   (∀ j oj, ops[j]? = some oj -> j ≠ i -> d.getD j true = false -> (∀ e ∈ oj.after, Region.binds md e = true -> e.on ≠ i) -> oi.apart ops oj = true) ->
   i ∈ Region.ready md ops d -> YieldsIn P ops C oi v a -> HeadQ P md ops C n L f (d.setIfInBounds i true) (a.put oi.dst v) -> HeadQ P md ops C n L (f + 1) d a := by
 induction f with
 | zero =>
  intro d a inv free hr hy H
  refine ⟨List.ne_nil_of_mem hr, fun j hj => ?_⟩
  have lt : j < n := Nat.lt_of_not_le fun h => tail_waits sink chain hn inv _ i rfl hin (mem_ready.1 hr).1 j h hj
  refine ⟨lt, ?_⟩
  rcases Nat.decEq j i with ne | e
  ·exact absurd (late _ _ H j (ready_mono hj ne)) (by omega)
  ·subst e; exact hy.qOp hi H
 | succ f ih =>
  intro d a inv free hr hy H
  refine ⟨List.ne_nil_of_mem hr, fun j hj => ?_⟩
  have lt : j < n := Nat.lt_of_not_le fun h => tail_waits sink chain hn inv _ i rfl hin (mem_ready.1 hr).1 j h hj
  refine ⟨lt, ?_⟩
  rcases Nat.decEq j i with ne | e
  ·obtain ⟨ju, oj, hoj, all⟩ := mem_ready.1 hj
   have nw : ∀ e ∈ oj.after, Region.binds md e = true -> e.on ≠ i := by
    intro e he hb q
    have := all e he hb
    rw [q, getD_both (mem_ready.1 hr).1] at this
    exact Bool.false_ne_true this
   have k := qOp_put hoj (free j oj hoj ne ju nw) (fun cs b => nosel i oi cs b hi) (fun cs b => nosel j oj cs b hoj) hy (H.2 j (ready_mono hj ne)).2
   refine qOp_mono (fun a' x => ?_) k
   refine ih (d.setIfInBounds j true) a' (inv.set hj lt) (fun m om hm mi mu mw => ?_) (ready_mono hr (Ne.symm ne)) x.1 (by rw [Array.setIfInBounds_comm _ _ ne]; exact x.2)
   refine free m om hm mi ?_ mw
   rcases Nat.decEq j m with jm | jm
   ·rw [getD_set_ne true jm] at mu; exact mu
   ·subst jm; exact ju
  ·subst e; exact hy.qOp hi H
theorem HeadQ.lex {n g : Nat} {K : Act -> Prop} (hsel : Region.noSelect ops = true) (sink : Region.sinkB md ops n = true) (chain : Region.chainB md ops n = true) (hn : n < ops.size) (l : List Oper) :
  ∀ (k : Nat) (d : Array Bool) (a : Act), (∀ j, j < l.length -> l[j]? = ops[k + j]?) -> k + l.length = n -> HeadInv md ops n d -> Region.lexHead md ops g l.length k d = true -> wpQuiet P ops C K l a ->
  HeadQ P md ops C n (fun d' a' => Region.seqB md ops g n d' = true /\ K a') l.length d a := by
 induction l with
 | nil =>
  intro k d a _ hk _ hB h
  have e : k = n := hk
  subst e
  exact ⟨hB, h⟩
 | cons o l ih =>
  intro k d a hl hk inv hB h
  have ho : ops[k]? = some o := (hl 0 (by simp)).symm
  simp only [List.length_cons, Region.lexHead, Bool.and_eq_true, List.contains_iff_mem] at hB
  simp only [List.length_cons] at hk
  have q : qOp P ops C k (wpQuiet P ops C K l) a := by unfold qOp; rw [ho]; exact h
  obtain ⟨v, hy, hK⟩ := yieldsIn_of_qOp ho q
  refine HeadQ.first ho (Region.noSelect_spec hsel) sink chain hn (by omega) (fun d' a' z => seqB_ready z.1) l.length d a inv (Region.free_spec ho hB.1.2) hB.1.1 hy ?_
  refine ih (k + 1) _ _ (fun j hj => ?_) (by omega) (inv.set hB.1.1 (by omega)) hB.2 hK
  have := hl (j + 1) (by simp; omega)
  rw [show k + 1 + j = k + (j + 1) by omega, <- this]
  rfl
theorem vw {id : Nat} {Q : Exit -> Act -> World -> Prop} {a : Act} {w : World} {l : List Oper} (n : Nat) (hm : P.follows .mixedOrders = true) (hB : Region.lexTailB .any l.toArray n = true) (hC : C w.drew)
  (h : wpQuiet P l.toArray C (fun a' => ∀ w', C w' -> wpList P l.toArray Q (l.drop n) a' w') (l.take n) a) : (Code.region id l.toArray true).wp P Q a w := by
 simp only [Region.lexTailB, Bool.and_eq_true, decide_eq_true_eq] at hB
 obtain ⟨⟨⟨⟨hsel, hn⟩, sink⟩, chain⟩, lx⟩ := hB
 have tk : (l.take n).length = n := by rw [List.length_take]; simp at hn; omega
 have dk : (l.drop n).length = l.toArray.size - n := by simp
 have inv : HeadInv .any l.toArray n (Array.replicate l.toArray.size false) :=
  ⟨by simp, fun j oj _ z => by rw [getD_replicate_false] at z; exact absurd z (by decide), fun t _ ht => getD_in (by simpa using ht) (getD_replicate_false _ _)⟩
 refine wp_region_any hm ?_
 have H := HeadQ.lex (md := .any) (g := l.toArray.size - n) hsel sink chain hn (l.take n) 0 (Array.replicate l.toArray.size false) a (fun j hj => by
  rw [tk] at hj
  simp [hj]) (by omega) inv (by rw [tk]; exact lx) h
 have R := HeadQ.any (Q' := Q) (g := l.toArray.size - n) (fun d a' w' hw' z => by
  have := wpAny_of_seq (md := .any) (Q' := Q) (l.drop n) n d a' w' (fun j => by simp [List.getElem?_drop]) (by rw [dk]; exact z.1) (z.2 w' hw')
  rwa [dk] at this) (l.take n).length _ a w.drew hC H
 rw [tk, show n + (l.toArray.size - n) = l.toArray.size by omega] at R
 exact R
theorem QD {id : Nat} {Q : Exit -> Act -> World -> Prop} {a : Act} {w : World} {l : List Oper} (n : Nat) (hm : P.follows .mixedOrders = true) (hB : Region.lexTailB .any l.toArray n = true)
  (h : wpQuiet P l.toArray (fun w' => ∃ p : Regrown, w' = grow (redrawn w p.d) p.os) (fun a' => ∀ w', (∃ p : Regrown, w' = grow (redrawn w p.d) p.os) -> wpList P l.toArray Q (l.drop n) a' w') (l.take n) a) :
  (Code.region id l.toArray true).wp P Q a w :=
 vw n hm hB ⟨⟨w.drawn + 1, #[]⟩, by rw [grow_empty]; rfl⟩ h
theorem qB {id : Nat} {Q : Exit -> Act -> World -> Prop} {a : Act} {w : World} {l : List Oper} (n : Nat) (hm : P.follows .mixedOrders = true) (hB : Region.lexTailB .any l.toArray n = true)
  (h : wpQuiet P l.toArray (fun w' => ∃ m, w' = w.drewN m) (fun a' => ∀ w', (∃ m, w' = w.drewN m) -> wpList P l.toArray Q (l.drop n) a' w') (l.take n) a) :
  (Code.region id l.toArray true).wp P Q a w :=
 vw n hm hB ⟨1, rfl⟩ h
end
theorem Gives.regrown {k : Nat} {args : Array Value} {v : Value} (h : Gives k args v) {w : World} {d : Nat} {os : Array Obj} : Calls Tryz.prog k args (grow (redrawn w d) os) fun e w'' => e = .returned v /\ ∃ p : Regrown, w'' = grow (redrawn w p.d) p.os :=
 (h _).regrown_of
end
section
open Go.RowKit Go.Sort
structure C4 (w : World) (b : Nat) (x0 x1 x2 x3 : Value) : Prop where
 c0 : w.cell? ⟨b, 0, none⟩ = some x0
 c1 : w.cell? ⟨b, 1, none⟩ = some x1
 c2 : w.cell? ⟨b, 2, none⟩ = some x2
 c3 : w.cell? ⟨b, 3, none⟩ = some x3
 f0 : w.frozen? ⟨b, 0, none⟩ = false
 f1 : w.frozen? ⟨b, 1, none⟩ = false
 f2 : w.frozen? ⟨b, 2, none⟩ = false
 f3 : w.frozen? ⟨b, 3, none⟩ = false
theorem C4.far {w : World} {b b' o : Nat} {x0 x1 x2 x3 y : Value} (h : C4 w b x0 x1 x2 x3) (n : b ≠ b') : C4 (w.setCell ⟨b', o, none⟩ y) b x0 x1 x2 x3 := by
 obtain ⟨a0, a1, a2, a3, f0, f1, f2, f3⟩ := h
 constructor <;> simp [go_sem, *]
theorem C4.put {w : World} {b : Nat} {x0 x1 x2 x3 : Value} (h : C4 w b x0 x1 x2 x3) (y0 y1 y2 y3 : Value) : C4 ((((w.setCell ⟨b, 0, none⟩ y0).setCell ⟨b, 1, none⟩ y1).setCell ⟨b, 2, none⟩ y2).setCell ⟨b, 3, none⟩ y3) b y0 y1 y2 y3 := by
 obtain ⟨a0, a1, a2, a3, f0, f1, f2, f3⟩ := h
 constructor <;> simp [go_sem, *]
structure C3 (w : World) (b : Nat) (x0 x1 x2 : Value) : Prop where
 c0 : w.cell? ⟨b, 0, none⟩ = some x0
 c1 : w.cell? ⟨b, 1, none⟩ = some x1
 c2 : w.cell? ⟨b, 2, none⟩ = some x2
 f0 : w.frozen? ⟨b, 0, none⟩ = false
 f1 : w.frozen? ⟨b, 1, none⟩ = false
 f2 : w.frozen? ⟨b, 2, none⟩ = false
theorem C3.keep {w w' : World} {B b : Nat} {x0 x1 x2 : Value} (h : C3 w b x0 x1 x2) (hb : Below B w w') (hB : b < B) : C3 w' b x0 x1 x2 :=
  ⟨(hb.cell (p := ⟨b, 0, none⟩) hB).trans h.c0, (hb.cell (p := ⟨b, 1, none⟩) hB).trans h.c1, (hb.cell (p := ⟨b, 2, none⟩) hB).trans h.c2,
   (hb.frozen (p := ⟨b, 0, none⟩) hB).trans h.f0, (hb.frozen (p := ⟨b, 1, none⟩) hB).trans h.f1, (hb.frozen (p := ⟨b, 2, none⟩) hB).trans h.f2⟩
theorem C3.lt {w : World} {b : Nat} {x0 x1 x2 : Value} (h : C3 w b x0 x1 x2) : b < w.heap.size := block_lt_of_cell h.c0
theorem C3.far {w : World} {b b' o : Nat} {x0 x1 x2 y : Value} (h : C3 w b x0 x1 x2) (n : b ≠ b') : C3 (w.setCell ⟨b', o, none⟩ y) b x0 x1 x2 := by
 obtain ⟨a0, a1, a2, f0, f1, f2⟩ := h
 constructor <;> simp [go_sem, *]
theorem C3.set0 {w : World} {b : Nat} {x0 x1 x2 : Value} (h : C3 w b x0 x1 x2) (y : Value) : C3 (w.setCell ⟨b, 0, none⟩ y) b y x1 x2 := by
 obtain ⟨a0, a1, a2, f0, f1, f2⟩ := h
 constructor <;> simp [go_sem, *]
theorem C3.set1 {w : World} {b : Nat} {x0 x1 x2 : Value} (h : C3 w b x0 x1 x2) (y : Value) : C3 (w.setCell ⟨b, 1, none⟩ y) b x0 y x2 := by
 obtain ⟨a0, a1, a2, f0, f1, f2⟩ := h
 constructor <;> simp [go_sem, *]
theorem C3.set2 {w : World} {b : Nat} {x0 x1 x2 : Value} (h : C3 w b x0 x1 x2) (y : Value) : C3 (w.setCell ⟨b, 2, none⟩ y) b x0 x1 y := by
 obtain ⟨a0, a1, a2, f0, f1, f2⟩ := h
 constructor <;> simp [go_sem, *]
theorem C3.put {w : World} {b : Nat} {x0 x1 x2 : Value} (h : C3 w b x0 x1 x2) (y0 y1 y2 : Value) : C3 (((w.setCell ⟨b, 0, none⟩ y0).setCell ⟨b, 1, none⟩ y1).setCell ⟨b, 2, none⟩ y2) b y0 y1 y2 := ((h.set0 y0).set1 y1).set2 y2
theorem C3.alloc {w : World} {b : Nat} {x0 x1 x2 : Value} (h : C3 w b x0 x1 x2) (o : Obj) : C3 (w.alloc o) b x0 x1 x2 := h.keep ((Below.refl w.heap.size w).alloc Xm o) h.lt
theorem C3.regrown {w : World} {b : Nat} {x0 x1 x2 : Value} (h : C3 w b x0 x1 x2) (d : Nat) (os : Array Obj) : C3 (grow (redrawn w d) os) b x0 x1 x2 := h.keep (below_regrown w d os) h.lt
end
section
open Go Go.Sort Go.RowKit
def tokV : Value := .tuple #[.bool true, .bool false]
section
variable {P : Program} {ops : Array Oper} {md : Region.Mode} {C : World -> Prop} {ts : List Tmp} {R : Tmp -> Value -> World -> Prop}
def SimT (ts : List Tmp) (R : Tmp -> Value -> World -> Prop) (a b : Act) (w : World) (t : Tmp) : Prop :=
 (t ∈ ts /\ b.tmps.getD t undef = tokV /\ R t (a.tmps.getD t undef) w) \/ (¬ (t ∈ ts /\ b.tmps.getD t undef = tokV) /\ a.tmps.getD t undef = b.tmps.getD t undef)
structure SimA (ts : List Tmp) (R : Tmp -> Value -> World -> Prop) (a b : Act) (w : World) : Prop where
 size : a.tmps.size = b.tmps.size
 defs : a.defers = b.defers
 all : ∀ t, SimT ts R a b w t
def qQ (P : Program) (w : World) (r : Value -> World -> Prop) : Result Next -> Prop
 | .ok (.value u) w' => Below w.heap.size w w' /\ r u w'
 | .ok .skip w' => Below w.heap.size w w' /\ r undef w'
 | .ok (.enter f args) w' => Below w.heap.size w w' /\ Calls P f args w' (fun e w'' => ∃ v, e = .returned v /\ r v w'' /\ Below w.heap.size w w'')
 | _ => False
def stepV (P : Program) (ops : Array Oper) (C : World -> Prop) (ts : List Tmp) (R : Tmp -> Value -> World -> Prop) (o : Oper) (x : Value) (b : Act) : Prop :=
 (¬ (x = tokV /\ ∃ d ∈ ts, o.dst = some d) /\ ∀ w a, C w -> (∀ t ∈ o.looksAt ops, SimT ts R a b w t) -> qQ P w (fun u _ => u = x) ((execOp a.eval o).run P w))
 \/ (x = tokV /\ ∃ d ∈ ts, o.dst = some d /\ d < b.tmps.size /\ ∀ w a, C w -> (∀ t ∈ o.looksAt ops, SimT ts R a b w t) -> qQ P w (R d) ((execOp a.eval o).run P w))
def yieldS (P : Program) (ops : Array Oper) (C : World -> Prop) (ts : List Tmp) (R : Tmp -> Value -> World -> Prop) (o : Oper) (x : Value) (b : Act) : Prop :=
 (Region.wanted o (yielded ops b.tmps) = true /\ stepV P ops C ts R o x b) \/ (Region.wanted o (yielded ops b.tmps) = false /\ x = undef)
def sOp (P : Program) (ops : Array Oper) (C : World -> Prop) (ts : List Tmp) (R : Tmp -> Value -> World -> Prop) (i : Nat) (K : Act -> Prop) (b : Act) : Prop :=
 match ops[i]? with
 | none => K b
 | some o => ∃ x, yieldS P ops C ts R o x b /\ K (b.put o.dst x)
def wpS (P : Program) (ops : Array Oper) (C : World -> Prop) (ts : List Tmp) (R : Tmp -> Value -> World -> Prop) (K : Act -> Prop) : List Oper -> Act -> Prop
 | [], b => K b
 | o :: l, b => ∃ x, yieldS P ops C ts R o x b /\ wpS P ops C ts R K l (b.put o.dst x)
theorem xz (a : Act) (d : Option Tmp) (v : Value) (t : Tmp) : (a.put d v).tmps.getD t undef = if d = some t /\ t < a.tmps.size then v else a.tmps.getD t undef := by
 cases d with
 | none => simp [Act.put]
 | some d =>
  simp only [Act.put, Option.some.injEq]
  by_cases e : d = t
  ·subst e
   by_cases h : d < a.tmps.size
   ·simp [h]
   ·simp [h]
  ·simp [e, Array.getElem?_setIfInBounds_ne e]
theorem jK (a : Act) (d : Option Tmp) (v : Value) : (a.put d v).tmps.size = a.tmps.size := by cases d <;> simp [Act.put]
theorem ke (a : Act) (d : Option Tmp) (v : Value) : (a.put d v).defers = a.defers := by cases d <;> rfl
theorem simT_put {a b : Act} {w : World} {d : Option Tmp} {v : Value} {t : Tmp} (h : d ≠ some t) : SimT ts R a (b.put d v) w t ↔ SimT ts R a b w t := by
 unfold SimT
 rw [xz, if_neg (fun e => h e.1)]
theorem QE {o oi : Oper} {x v : Value} {b : Act} (h : ∀ d, oi.dst = some d -> d ∉ o.looksAt ops) : stepV P ops C ts R o x (b.put oi.dst v) ↔ stepV P ops C ts R o x b := by
 have e : ∀ a w, (∀ t ∈ o.looksAt ops, SimT ts R a (b.put oi.dst v) w t) ↔ (∀ t ∈ o.looksAt ops, SimT ts R a b w t) := fun a w =>
  forall_congr' fun t => forall_congr' fun ht => simT_put (fun q => h t q ht)
 unfold stepV
 simp only [e, jK]
theorem vy {o oi : Oper} {x v : Value} {b : Act} (h : ∀ d, oi.dst = some d -> d ∉ o.looksAt ops) : yieldS P ops C ts R o x (b.put oi.dst v) ↔ yieldS P ops C ts R o x b := by
 unfold yieldS
 rw [wanted_put o b oi.dst v h, QE h]
theorem sOp_mono {i : Nat} {b : Act} {K K' : Act -> Prop} (h : ∀ b, K b -> K' b) (hh : sOp P ops C ts R i K b) : sOp P ops C ts R i K' b := by
 unfold sOp at *
 split
 ·rename_i e; rw [e] at hh; exact h _ hh
 ·rename_i o e
  rw [e] at hh
  obtain ⟨x, h1, h2⟩ := hh
  exact ⟨x, h1, h _ h2⟩
theorem yieldS.sOp {i : Nat} {o : Oper} {v : Value} {b : Act} (hi : ops[i]? = some o) (hy : yieldS P ops C ts R o v b) {K : Act -> Prop} (h : K (b.put o.dst v)) : sOp P ops C ts R i K b := by
 unfold Go.Proofs.YtifoijbpbigaaaaGreatDoor.sOp
 rw [hi]
 exact ⟨v, hy, h⟩
theorem sOp_put {j : Nat} {oi oj : Oper} {v : Value} (hj : ops[j]? = some oj) (hap : oi.apart ops oj = true) {K : Act -> Prop} {b : Act}
  (hy : yieldS P ops C ts R oi v b) (h : sOp P ops C ts R j K (b.put oi.dst v)) : sOp P ops C ts R j (fun b' => yieldS P ops C ts R oi v b' /\ K (b'.put oi.dst v)) b := by
 obtain ⟨h1, h2, h3⟩ := Oper.apart_spec hap
 unfold sOp at *
 rw [hj] at h ⊢
 obtain ⟨x, hx, hn⟩ := h
 exact ⟨x, (vy h1).1 hx, (vy h3).2 hy, by rw [<- Act.put_comm b v x h2]; exact hn⟩
def j8 (ts : List Tmp) (ops : Array Oper) : Bool := ops.all fun o => match o.guard with
 | some (g, _) => (match (ops[g]?).bind (·.dst) with
  | some t => !ts.contains t
  | none => true)
 | none => true
theorem QF {i : Nat} {o : Oper} {a b : Act} {w : World} (hg : j8 ts ops = true) (hi : ops[i]? = some o) (h : SimA ts R a b w) : Region.wanted o (yielded ops a.tmps) = Region.wanted o (yielded ops b.tmps) := by
 unfold Region.wanted
 cases e : o.guard with
 | none => rfl
 | some gw =>
  obtain ⟨g, want⟩ := gw
  have k := Array.all_eq_true_iff_forall_mem.1 hg o (Array.mem_of_getElem? hi)
  rw [e] at k
  simp only at k
  have hy : yielded ops a.tmps g = yielded ops b.tmps g := by
   unfold yielded
   cases ht : (ops[g]?).bind (·.dst) with
   | none => rfl
   | some t =>
    rw [ht] at k
    have nt : t ∉ ts := by simpa using k
    have z : a.tmps.getD t undef = b.tmps.getD t undef := by
     rcases h.all t with ⟨q, _⟩ | ⟨_, q⟩
     ·exact absurd q nt
     ·exact q
    have z2 : a.tmps[t]? = b.tmps[t]? := by
     by_cases lt : t < a.tmps.size
     ·have lt2 : t < b.tmps.size := by rw [<- h.size]; exact lt
      simp [lt, lt2] at z
      simp [lt, lt2, z]
     ·have lt2 : ¬ t < b.tmps.size := by rw [<- h.size]; exact lt
      rw [Array.getElem?_eq_none (Nat.le_of_not_lt lt), Array.getElem?_eq_none (Nat.le_of_not_lt lt2)]
    show (match a.tmps[t]? with | some (Value.bool b) => some b | _ => none) = (match b.tmps[t]? with | some (Value.bool b) => some b | _ => none)
    rw [z2]
  simp only [hy]
theorem kf {a b : Act} {w w' : World} {d : Option Tmp} {u x : Value} (stab : ∀ t v w w', Below w.heap.size w w' -> R t v w -> R t v w') (h : SimA ts R a b w) (hb : Below w.heap.size w w')
  (hx : (¬ (x = tokV /\ ∃ t ∈ ts, d = some t) /\ u = x) \/ (x = tokV /\ ∃ t ∈ ts, d = some t /\ t < b.tmps.size /\ R t u w')) : SimA ts R (a.put d u) (b.put d x) w' := by
 refine ⟨by rw [jK, jK]; exact h.size, by rw [ke, ke]; exact h.defs, fun t => ?_⟩
 unfold SimT
 rw [xz, xz, h.size]
 by_cases c : d = some t /\ t < b.tmps.size
 ·rw [if_pos c, if_pos c]
  rcases hx with ⟨n, rfl⟩ | ⟨rfl, t', m, e, l, r⟩
  ·exact Or.inr ⟨fun q => n ⟨q.2, t, q.1, c.1⟩, rfl⟩
  ·rw [c.1] at e
   cases e
   exact Or.inl ⟨m, rfl, r⟩
 ·rw [if_neg c, if_neg c]
  rcases h.all t with ⟨p, q, r⟩ | q
  ·exact Or.inl ⟨p, q, stab _ _ _ _ hb r⟩
  ·exact Or.inr q
theorem QG {i : Nat} {a b : Act} {K : Act -> Prop} {K' : Act -> World -> Prop} {Q' : Exit -> Act -> World -> Prop} {w : World} (stab : ∀ t v w w', Below w.heap.size w w' -> R t v w -> R t v w') (hC : ∀ w w', C w -> Below w.heap.size w w' -> C w')
  (hg : j8 ts ops = true) (hw : C w) (hs : SimA ts R a b w) (h : ∀ a' b' w', C w' -> SimA ts R a' b' w' -> K b' -> K' a' w') (hh : sOp P ops C ts R i K b) : wpOp P ops Q' i K' a w := by
 unfold sOp at hh
 unfold wpOp
 split
 ·rename_i e; rw [e] at hh; exact h _ _ _ hw hs hh
 ·rename_i o e
  rw [e] at hh
  obtain ⟨x, hy, hK⟩ := hh
  rw [QF hg e hs]
  rcases hy with ⟨hwa, hy⟩ | ⟨hwa, rfl⟩
  ·rw [if_pos hwa]
   refine Or.inl ?_
   obtain ⟨r, hr, hu⟩ : ∃ r : Value -> World -> Prop, qQ P w r ((execOp a.eval o).run P w) /\ ∀ u w', Below w.heap.size w w' -> r u w' -> K' (a.put o.dst u) w' := by
    rcases hy with ⟨n, hy⟩ | ⟨rfl, d, m, ed, l, hy⟩
    ·exact ⟨_, hy w a hw (fun t _ => hs.all t), fun u w' hb e => h _ _ _ (hC _ _ hw hb) (kf stab hs hb (Or.inl ⟨n, e⟩)) hK⟩
    ·exact ⟨_, hy w a hw (fun t _ => hs.all t), fun u w' hb e => h _ _ _ (hC _ _ hw hb) (kf stab hs hb (Or.inr ⟨rfl, d, m, ed, l, e⟩)) hK⟩
   unfold Oper.wp
   generalize (execOp a.eval o).run P w = res at *
   cases res with
   | ok n w' =>
    cases n <;> simp only [qQ] at hr <;> simp only [Oper.upon]
    case value u => exact hu _ _ hr.1 hr.2
    case skip => exact hu _ _ hr.1 hr.2
    case enter f args =>
     refine hr.2.mono fun e w'' ⟨v, he, hv, hb⟩ => ?_
     subst he
     exact hu _ _ hb hv
   | halt x w' => simp only [qQ] at hr
  ·rw [if_neg (by rw [hwa]; decide)]
   refine h _ _ _ hw (kf stab hs (Below.refl _ _) (Or.inl ⟨fun q => ?_, rfl⟩)) hK
   have := q.1
   unfold tokV at this
   cases this
def HeadS (P : Program) (md : Region.Mode) (ops : Array Oper) (C : World -> Prop) (ts : List Tmp) (R : Tmp -> Value -> World -> Prop) (n : Nat) (L : Array Bool -> Act -> Prop) : Nat -> Array Bool -> Act -> Prop
 | 0, d, b => L d b
 | f + 1, d, b => Region.ready md ops d ≠ [] /\ ∀ i, i ∈ Region.ready md ops d -> i < n /\ sOp P ops C ts R i (fun b' => HeadS P md ops C ts R n L f (d.setIfInBounds i true) b') b
theorem HeadS.any {n g : Nat} {L : Array Bool -> Act -> Prop} {Q' : Exit -> Act -> World -> Prop} (stab : ∀ t v w w', Below w.heap.size w w' -> R t v w -> R t v w') (hC : ∀ w w', C w -> Below w.heap.size w w' -> C w') (hg : j8 ts ops = true)
  (tl : ∀ d a b w, C w -> SimA ts R a b w -> L d b -> wpAny P md ops Q' g d a w) (f : Nat) :
  ∀ (d : Array Bool) (a b : Act) (w : World), C w -> SimA ts R a b w -> HeadS P md ops C ts R n L f d b -> wpAny P md ops Q' (f + g) d a w := by
 induction f with
 | zero => intro d a b w hw hs h; rw [Nat.zero_add]; exact tl d a b w hw hs h
 | succ f ih =>
  intro d a b w hw hs h
  have e : f + 1 + g = (f + g) + 1 := by omega
  rw [e]
  refine ⟨fun z => absurd z h.1, fun i hi => ?_⟩
  exact QG stab hC hg hw hs (fun a' b' w' hw' hs' k => ih _ a' b' w' hw' hs' k) (h.2 i hi).2
theorem HeadS.first {n i : Nat} {oi : Oper} {v : Value} {L : Array Bool -> Act -> Prop} (hi : ops[i]? = some oi)
  (sink : Region.sinkB md ops n = true) (chain : Region.chainB md ops n = true) (hn : n < ops.size) (hin : i < n) (late : ∀ d b, L d b -> ∀ j ∈ Region.ready md ops d, n <= j) (f : Nat) :
  ∀ (d : Array Bool) (b : Act), HeadInv md ops n d ->
   (∀ j oj, ops[j]? = some oj -> j ≠ i -> d.getD j true = false -> (∀ e ∈ oj.after, Region.binds md e = true -> e.on ≠ i) -> oi.apart ops oj = true) ->
   i ∈ Region.ready md ops d -> yieldS P ops C ts R oi v b -> HeadS P md ops C ts R n L f (d.setIfInBounds i true) (b.put oi.dst v) -> HeadS P md ops C ts R n L (f + 1) d b := by
 induction f with
 | zero =>
  intro d b inv free hr hy H
  refine ⟨List.ne_nil_of_mem hr, fun j hj => ?_⟩
  have lt : j < n := Nat.lt_of_not_le fun h => tail_waits sink chain hn inv _ i rfl hin (mem_ready.1 hr).1 j h hj
  refine ⟨lt, ?_⟩
  rcases Nat.decEq j i with ne | e
  ·exact absurd (late _ _ H j (ready_mono hj ne)) (by omega)
  ·subst e; exact hy.sOp hi H
 | succ f ih =>
  intro d b inv free hr hy H
  refine ⟨List.ne_nil_of_mem hr, fun j hj => ?_⟩
  have lt : j < n := Nat.lt_of_not_le fun h => tail_waits sink chain hn inv _ i rfl hin (mem_ready.1 hr).1 j h hj
  refine ⟨lt, ?_⟩
  rcases Nat.decEq j i with ne | e
  ·obtain ⟨ju, oj, hoj, all⟩ := mem_ready.1 hj
   have nw : ∀ e ∈ oj.after, Region.binds md e = true -> e.on ≠ i := by
    intro e he hb q
    have := all e he hb
    rw [q, getD_both (mem_ready.1 hr).1] at this
    exact Bool.false_ne_true this
   have k := sOp_put hoj (free j oj hoj ne ju nw) hy (H.2 j (ready_mono hj ne)).2
   refine sOp_mono (fun b' x => ?_) k
   refine ih (d.setIfInBounds j true) b' (inv.set hj lt) (fun m om hm mi mu mw => ?_) (ready_mono hr (Ne.symm ne)) x.1 (by rw [Array.setIfInBounds_comm _ _ ne]; exact x.2)
   refine free m om hm mi ?_ mw
   rcases Nat.decEq j m with jm | jm
   ·rw [getD_set_ne true jm] at mu; exact mu
   ·subst jm; exact ju
  ·subst e; exact hy.sOp hi H
theorem HeadS.lex {n g : Nat} {K : Act -> Prop} (sink : Region.sinkB md ops n = true) (chain : Region.chainB md ops n = true) (hn : n < ops.size) (l : List Oper) :
  ∀ (k : Nat) (d : Array Bool) (b : Act), (∀ j, j < l.length -> l[j]? = ops[k + j]?) -> k + l.length = n -> HeadInv md ops n d -> Region.lexHead md ops g l.length k d = true -> wpS P ops C ts R K l b ->
  HeadS P md ops C ts R n (fun d' b' => Region.seqB md ops g n d' = true /\ K b') l.length d b := by
 induction l with
 | nil =>
  intro k d b _ hk _ hB h
  have e : k = n := hk
  subst e
  exact ⟨hB, h⟩
 | cons o l ih =>
  intro k d b hl hk inv hB h
  have ho : ops[k]? = some o := (hl 0 (by simp)).symm
  simp only [List.length_cons, Region.lexHead, Bool.and_eq_true, List.contains_iff_mem] at hB
  simp only [List.length_cons] at hk
  obtain ⟨v, hy, hK⟩ := h
  refine HeadS.first ho sink chain hn (by omega) (fun d' b' z => seqB_ready z.1) l.length d b inv (Region.free_spec ho hB.1.2) hB.1.1 hy ?_
  refine ih (k + 1) _ _ (fun j hj => ?_) (by omega) (inv.set hB.1.1 (by omega)) hB.2 hK
  have := hl (j + 1) (by simp; omega)
  rw [show k + 1 + j = k + (j + 1) by omega, <- this]
  rfl
def ze (vs : Tmp -> Value) : List Tmp -> Act -> Act
 | [], b => b
 | t :: r, b => (ze vs r b).put (some t) (vs t)
theorem vz (vs : Tmp -> Value) (t : Tmp) : ∀ (l : List Tmp) (b : Act), (ze vs l b).tmps.size = b.tmps.size /\ (ze vs l b).defers = b.defers /\ (ze vs l b).tmps.getD t undef = if t ∈ l /\ t < b.tmps.size then vs t else b.tmps.getD t undef := by
 intro l
 induction l with
 | nil => intro b; simp [ze]
 | cons s r ih =>
  intro b
  obtain ⟨h1, h2, h3⟩ := ih b
  refine ⟨by unfold ze; rw [jK, h1], by unfold ze; rw [ke, h2], ?_⟩
  unfold ze
  rw [xz, h1, h3]
  by_cases e : s = t
  ·subst e
   by_cases l : s < b.tmps.size
   ·simp [l]
   ·simp [l]
  ·by_cases l : t < b.tmps.size
   ·simp [l, e, Ne.symm e]
   ·simp [l, e]
theorem sim_fill {a b : Act} {w : World} (h : SimA ts R a b w) : ∃ vs : Tmp -> Value, a = ze vs ts b /\ ∀ t ∈ ts, b.tmps.getD t undef = tokV -> R t (vs t) w := by
 refine ⟨fun t => a.tmps.getD t undef, ?_, fun t ht e => ?_⟩
 ·obtain ⟨at_, ad⟩ := a
  obtain ⟨f1, f2, _⟩ := vz (fun t => at_.getD t undef) 0 ts b
  have e1 : at_ = (ze (fun t => at_.getD t undef) ts b).tmps := by
   refine Array.ext (by rw [f1]; exact h.size) fun i h1 h2 => ?_
   have g := (vz (fun t => at_.getD t undef) i ts b).2.2
   have z : at_.getD i undef = (ze (fun t => at_.getD t undef) ts b).tmps.getD i undef := by
    rw [g]
    by_cases c : i ∈ ts /\ i < b.tmps.size
    ·rw [if_pos c]
    ·rw [if_neg c]
     have lt : i < b.tmps.size := by rw [<- h.size]; exact h1
     rcases h.all i with ⟨q, _⟩ | ⟨_, q⟩
     ·exact absurd ⟨q, lt⟩ c
     ·exact q
   have l1 : at_.getD i undef = at_[i] := by simp [h1]
   have l2 : (ze (fun t => at_.getD t undef) ts b).tmps.getD i undef = (ze (fun t => at_.getD t undef) ts b).tmps[i] := by rw [Array.getD_eq_getD_getElem?, Array.getElem?_eq_getElem h2]; rfl
   rw [<- l1, <- l2, z]
  have e2 : ad = (ze (fun t => at_.getD t undef) ts b).defers := by rw [f2]; exact h.defs
  show (⟨at_, ad⟩ : Act) = ze (fun t => at_.getD t undef) ts b
  calc (⟨at_, ad⟩ : Act) = ⟨(ze (fun t => at_.getD t undef) ts b).tmps, (ze (fun t => at_.getD t undef) ts b).defers⟩ := by rw [<- e1, <- e2]
   _ = _ := rfl
 ·rcases h.all t with ⟨_, _, r⟩ | ⟨n, _⟩
  ·exact r
  ·exact absurd ⟨ht, e⟩ n
def zL (w : World) : World -> Prop := fun w' => ∃ p : Regrown, w' = grow (redrawn w p.d) p.os
theorem zj {w w' : World} : zL w w' ↔ Below w.heap.size w w' :=
 ⟨fun ⟨p, e⟩ => by rw [e]; exact below_regrown _ _ _, fun h => regrown_of_below h⟩
theorem QH {id : Nat} {Q : Exit -> Act -> World -> Prop} {a : Act} {w : World} {l : List Oper} (n : Nat) (ts : List Tmp) (R : Tmp -> Value -> World -> Prop) (hm : P.follows .mixedOrders = true)
  (hB : Region.lexTailB .any l.toArray n = true) (hg : j8 ts l.toArray = true) (h0 : ∀ t ∈ ts, a.tmps.getD t undef ≠ tokV) (stab : ∀ t v w w', Below w.heap.size w w' -> R t v w -> R t v w')
  (h : wpS P l.toArray (zL w) ts R (fun b => ∀ w' vs, zL w w' -> (∀ t ∈ ts, b.tmps.getD t undef = tokV -> R t (vs t) w') -> wpList P l.toArray Q (l.drop n) (ze vs ts b) w') (l.take n) a) :
  (Code.region id l.toArray true).wp P Q a w := by
 simp only [Region.lexTailB, Bool.and_eq_true, decide_eq_true_eq] at hB
 obtain ⟨⟨⟨⟨hsel, hn⟩, sink⟩, chain⟩, lx⟩ := hB
 have tk : (l.take n).length = n := by rw [List.length_take]; simp at hn; omega
 have dk : (l.drop n).length = l.toArray.size - n := by simp
 have inv : HeadInv .any l.toArray n (Array.replicate l.toArray.size false) :=
  ⟨by simp, fun j oj _ z => by rw [getD_replicate_false] at z; exact absurd z (by decide), fun t _ ht => getD_in (by simpa using ht) (getD_replicate_false _ _)⟩
 have hC : ∀ w1 w2, zL w w1 -> Below w1.heap.size w1 w2 -> zL w w2 := fun w1 w2 h1 h2 => zj.2 ((zj.1 h1).trans (h2.mono (zj.1 h1).size))
 have s0 : SimA ts R a a w.drew := ⟨rfl, rfl, fun t => Or.inr ⟨fun q => h0 t q.1 q.2, rfl⟩⟩
 have c0 : zL w w.drew := zj.2 ⟨rfl, rfl, rfl, Xm, fun _ _ => rfl⟩
 refine wp_region_any hm ?_
 have H := HeadS.lex (md := .any) (g := l.toArray.size - n) sink chain hn (l.take n) 0 (Array.replicate l.toArray.size false) a (fun j hj => by
  rw [tk] at hj
  simp [hj]) (by omega) inv (by rw [tk]; exact lx) h
 have X := HeadS.any (Q' := Q) (g := l.toArray.size - n) stab hC hg (fun d a' b' w' hw' hs' z => by
  obtain ⟨vs, rfl, hv⟩ := sim_fill hs'
  have := wpAny_of_seq (md := .any) (Q' := Q) (l.drop n) n d (ze vs ts b') w' (fun j => by simp [List.getElem?_drop]) (by rw [dk]; exact z.1) (z.2 w' vs hw' hv)
  rwa [dk] at this) (l.take n).length _ a a w.drew c0 s0 H
 rw [tk, show n + (l.toArray.size - n) = l.toArray.size by omega] at X
 exact X
@[go_sem] def xA (P : Program) (w : World) (v : Value) : Result Next -> Prop
 | .ok (.value u) w' => w' = w /\ u = v
 | .ok .skip w' => w' = w /\ v = undef
 | .ok (.enter f args) w' => w' = w /\ Calls P f args w (fun e w'' => e = .returned v /\ zL w w'')
 | _ => False
theorem QI {w : World} {v : Value} {r : Result Next} (h : xA P w v r) : qQ P w (fun u _ => u = v) r := by
 cases r with
 | ok n w' =>
  cases n <;> simp only [xA] at h <;> simp only [qQ]
  case value u => exact ⟨by rw [h.1]; exact Below.refl _ _, h.2⟩
  case skip => exact ⟨by rw [h.1]; exact Below.refl _ _, h.2.symm⟩
  case enter f args =>
   obtain ⟨rfl, hc⟩ := h
   exact ⟨Below.refl _ _, hc.mono fun e w'' ⟨he, hb⟩ => ⟨v, he, rfl, zj.1 hb⟩⟩
 | halt x w' => simp only [xA] at h
@[go_sem] def quietS (P : Program) (o : Oper) (b : Act) (w0 : World) (K : Act -> Prop) : Prop := ∃ v, (∀ p : Regrown, xA P (grow (redrawn w0 p.d) p.os) v ((execOp b.eval o).run P (grow (redrawn w0 p.d) p.os))) /\ K (b.put o.dst v)
def vA (ts : List Tmp) (ops : Array Oper) (o : Oper) : Bool := (o.looksAt ops).all (fun t => !ts.contains t) && (match o.dst with | some d => !ts.contains d | none => true) && (match o.op with | .select _ _ => false | _ => true)
theorem vB {o : Oper} {a b : Act} {w : World} (hs : ∀ cs d, o.op ≠ .select cs d) (hp : ∀ t ∈ o.looksAt ops, t ∉ ts) (h : ∀ t ∈ o.looksAt ops, SimT ts R a b w t) : execOp a.eval o = execOp b.eval o := by
 refine execOp_congr o hs fun x hx => ?_
 cases x with
 | tmp t =>
  have m : t ∈ o.looksAt ops := List.mem_append_left _ (List.mem_filterMap.2 ⟨.tmp t, by simpa using hx, rfl⟩)
  rcases h t m with ⟨q, _⟩ | ⟨_, q⟩
  ·exact absurd q (hp t m)
  ·exact q
 | _ => rfl
theorem zn {K : Act -> Prop} {b : Act} (h : K b) : wpS P ops C ts R K [] b := h
theorem zf {w0 : World} {K0 : Act -> Prop} {b : Act} {o : Oper} {rest : List Oper} (hp : vA ts ops o = true)
  (h : ∀ K : Act -> Prop, (∀ b, wpS P ops (zL w0) ts R K0 rest b -> K b) -> if Region.wanted o (yielded ops b.tmps) then quietS P o b w0 K else K (b.put o.dst undef)) : wpS P ops (zL w0) ts R K0 (o :: rest) b := by
 have k := h _ (fun _ h => h)
 simp only [vA, Bool.and_eq_true, List.all_eq_true] at hp
 obtain ⟨⟨p1, p2⟩, p3⟩ := hp
 split at k
 ·rename_i hw
  obtain ⟨v, hv, hk⟩ := k
  refine ⟨v, Or.inl ⟨hw, Or.inl ⟨?_, fun w a hC hl => ?_⟩⟩, hk⟩
  ·rintro ⟨_, d, m, e⟩
   rw [e] at p2
   simp at p2
   exact p2 m
  ·obtain ⟨p, rfl⟩ := hC
   rw [vB (fun cs d e => by rw [e] at p3; cases p3) (fun t ht => by have := p1 t ht; simpa using this) hl]
   exact QI (hv p)
 ·rename_i hw
  exact ⟨undef, Or.inr ⟨by simpa using hw, rfl⟩, k⟩
theorem vC {w0 : World} {K0 : Act -> Prop} {b : Act} {o : Oper} {rest : List Oper} (d : Tmp) (hd : o.dst = some d) (hm : d ∈ ts) (hs : d < b.tmps.size) (hw : Region.wanted o (yielded ops b.tmps) = true)
  (hp : (o.looksAt ops).all (fun t => !ts.contains t) = true) (hsel : ∀ cs d, o.op ≠ .select cs d)
  (h : ∀ p : Regrown, qQ P (grow (redrawn w0 p.d) p.os) (R d) ((execOp b.eval o).run P (grow (redrawn w0 p.d) p.os))) (k : wpS P ops (zL w0) ts R K0 rest (b.put o.dst tokV)) : wpS P ops (zL w0) ts R K0 (o :: rest) b := by
 refine ⟨tokV, Or.inl ⟨hw, Or.inr ⟨rfl, d, hm, hd, hs, fun w a hC hl => ?_⟩⟩, k⟩
 obtain ⟨p, rfl⟩ := hC
 rw [vB hsel (fun t ht => by have := List.all_eq_true.1 hp t ht; simpa using this) hl]
 exact h p
end
structure Spec where
 r : Value -> World -> Prop
 stab : ∀ v w w', Below w.heap.size w w' -> r v w -> r v w'
def jL (l : List (Tmp × Spec)) (t : Tmp) (v : Value) (w : World) : Prop := ((l.lookup t).map fun s => s.r v w).getD False
theorem QJ (l : List (Tmp × Spec)) (t : Tmp) (v : Value) (w w' : World) (hb : Below w.heap.size w w') (h : jL l t v w) : jL l t v w' := by
 unfold jL at *
 cases e : l.lookup t with
 | none => rw [e] at h; exact h
 | some s => rw [e] at h; exact s.stab _ _ _ hb h
theorem zo {P : Program} {id : Nat} {Q : Exit -> Act -> World -> Prop} {a : Act} {w : World} {l : List Oper} (n : Nat) (sp : List (Tmp × Spec)) (ts : List Tmp) (hm : P.follows .mixedOrders = true)
  (hB : Region.lexTailB .any l.toArray n = true) (hg : j8 ts l.toArray = true) (h0 : ∀ t ∈ ts, a.tmps.getD t undef ≠ tokV)
  (h : wpS P l.toArray (zL w) ts (jL sp) (fun b => ∀ w' vs, zL w w' -> (∀ t ∈ ts, b.tmps.getD t undef = tokV -> jL sp t (vs t) w') -> wpList P l.toArray Q (l.drop n) (ze vs ts b) w') (l.take n) a) :
  (Code.region id l.toArray true).wp P Q a w := QH n ts (jL sp) hm hB hg h0 (QJ sp) h
theorem Gives.later {k : Nat} {args : Array Value} {v : Value} (h : Gives k args v) {w : World} : Calls Tryz.prog k args w fun e w'' => e = .returned v /\ zL w w'' := (h w).mono fun _ _ ⟨a, b⟩ => ⟨a, zj.2 b⟩
theorem js {P : Program} {k : Nat} {args : Array Value} {v : Value} {w : World} (h : Calls P k args w fun e w' => e = .returned v /\ Below w.heap.size w w') : Calls P k args w fun e w'' => e = .returned v /\ zL w w'' := h.mono fun _ _ ⟨a, b⟩ => ⟨a, zj.2 b⟩
def Shows (n : Nat) (cs : List Value) (v : Value) (w : World) : Prop := ∃ g, v = .slice (some ⟨g, 0, none⟩) n n /\ g < w.heap.size /\ ∀ i u, cs[i]? = some u -> w.cell? ⟨g, i, none⟩ = some u
theorem Shows.stab {n : Nat} {cs : List Value} {v : Value} {w w' : World} (hb : Below w.heap.size w w') (h : Shows n cs v w) : Shows n cs v w' := by
 obtain ⟨g, e, l, c⟩ := h
 exact ⟨g, e, Nat.lt_of_lt_of_le l hb.size, fun i u hu => (hb.cell (p := ⟨g, i, none⟩) l).trans (c i u hu)⟩
def showS (n : Nat) (cs : List Value) : Spec := ⟨Shows n cs, fun _ _ _ => Shows.stab⟩
theorem z7 (w : World) (cs : List Value) (T : TypeId) (i : Nat) (u : Value) (h : cs[i]? = some u) : (w.alloc (.cells cs.toArray T)).cell? ⟨w.heap.size, i, none⟩ = some u /\ (w.alloc (.cells cs.toArray T)).frozen? ⟨w.heap.size, i, none⟩ = false := by
 simp [go_sem, h]
theorem QK {P : Program} {w : World} {n g : Nat} {T : TypeId} {cs : List Value} (e : g = w.heap.size) : qQ P w (Shows n cs) (.ok (.value (.slice (some ⟨g, 0, none⟩) n n)) (w.alloc (.cells cs.toArray T))) := by
 subst e
 exact ⟨(Below.refl _ _).alloc Xm _, _, rfl, by simp, fun i u h => (z7 w cs T i u h).1⟩
end
section
open Go.RowKit
def Sees (w : World) (B : Nat) (A : Option Addr) (xs : List Value) : Prop :=
 xs ≠ [] -> ∃ ad, A = some ad /\ ad.block < B /\ ∀ j u, xs[j]? = some u -> w.cell? (ad.add j) = some u
theorem zg (a : Addr) (n : Nat) : (a.add n).block = a.block := by unfold Addr.add; split <;> rfl
theorem Sees.nil (w : World) (B : Nat) (A : Option Addr) : Sees w B A [] := fun h => absurd rfl h
theorem Sees.at {w : World} {B : Nat} {A : Option Addr} {xs : List Value} (h : Sees w B A xs) {k : Nat} (hk : k < xs.length) : ∃ ad, A = some ad /\ ad.block < B /\ w.cell? (ad.add k) = some xs[k] := by
 obtain ⟨ad, e, b, c⟩ := h (fun e => by subst e; cases hk)
 exact ⟨ad, e, b, c k _ (List.getElem?_eq_getElem hk)⟩
theorem Sees.below {w w' : World} {B B' : Nat} {A : Option Addr} {xs : List Value} (h : Sees w B A xs) (hb : Below B' w w') (hB : B <= B') : Sees w' B A xs := fun n => by
 obtain ⟨ad, e, b, c⟩ := h n
 exact ⟨ad, e, b, fun j u hu => (hb.cell (by rw [zg]; omega)).trans (c j u hu)⟩
theorem Sees.more {w : World} {B B' : Nat} {A : Option Addr} {xs : List Value} (h : Sees w B A xs) (hB : B <= B') : Sees w B' A xs := fun n => by
 obtain ⟨ad, e, b, c⟩ := h n
 exact ⟨ad, e, by omega, c⟩
theorem Sees.of_own {w : World} {base : Nat} {T : TypeId} {A : Option Addr} {n c : Nat} {xs : List Value} (h : w.ownsRow base T 1 (.slice A n c) n xs) : Sees w w.heap.size A xs := fun hne => by
 rcases h.2 with ⟨_, h0⟩ | ⟨g, cap, cur, e, _, hg, _⟩
 ·exact absurd (List.eq_nil_of_length_eq_zero (by have := h.1; simpa [h0] using this)) hne
 ·injection e with e1
  subst e1
  exact ⟨_, rfl, block_lt_of_row hg, h.cells (g := g) rfl⟩
where
 block_lt_of_row {w : World} {g : Nat} {o : Obj} (h : w.heap[g]? = some o) : g < w.heap.size := by
  rcases Nat.lt_or_ge g w.heap.size with l | l
  ·exact l
  ·rw [Array.getElem?_eq_none l] at h; cases h
theorem zF {w w' : World} {base : Nat} {T : TypeId} {v : Value} {n : Nat} {xs : List Value} (h : w.ownsRow base T 1 v n xs) (hb : Below w.heap.size w w') : w'.ownsRow base T 1 v n xs :=
 h.kept (row := none) ⟨hb.os, hb.tape, hb.output, hb.size, fun k hk _ => hb.block k hk⟩ (by cases v.ownBlock <;> simp)
theorem j9 {w : World} {base : Nat} {T : TypeId} {v : Value} {n : Nat} {xs : List Value} (h : w.ownsRow base T 1 v n xs) : xs.length = n /\ ((v = .slice none 0 0 /\ n = 0) \/ ∃ g c, v = .slice (some ⟨g, 0, none⟩) n c /\ base <= g /\ g < w.heap.size /\ n <= c /\ c <= maxLen) := by
 refine ⟨by simpa using h.1, ?_⟩
 rcases h.2 with a | ⟨g, cap, cur, e, b, hg, n1, n2, _⟩
 ·exact Or.inl a
 ·exact Or.inr ⟨g, cap, e, b, Sees.of_own.block_lt_of_row hg, n1, n2⟩
end
end Go.Proofs.YtifoijbpbigaaaaGreatDoor
