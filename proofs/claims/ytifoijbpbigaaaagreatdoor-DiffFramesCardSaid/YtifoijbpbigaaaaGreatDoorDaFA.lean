/- What lies below tapes (kept of earlier texts: Shelf, Base, DfUc, ColA, Byte, StyPl, DfS, ColB, ColC, NearA, To). -/
import Derived.Shelf.Strconv.Itoa0
import Derived.Shelf.Strconv.Itoa1
import Derived.Shelf.LaysM
import Derived.Shelf.Strconv.Itoa2
import Derived.Shelf.Strconv.Itoa3
import Derived.Test.YtifoijbpbigaaaaGreatDoorProg
import Derived.Test.YtifoijbpbigaaaaGreatDoorChecked
import Derived.WalkKit
import Derived.WalkSpells
import Derived.WalkLawsBesides
import Derived.Handy
import Derived.Lib.Hide
import Derived.Deep.QuietTactic
import Derived.BigQuiet
import Derived.Laws.BitsLemmas
import Derived.Laws.BitsAllLaws
import Derived.Laws.ShiftsVarLaws
import Derived.Lib.QuietBelow
set_option linter.unusedVariables false
set_option linter.unusedSimpArgs false
namespace Go.Proofs
open Go.Shelf
def Tryz.laysM171_ren : Go.Shelf.Ren := ⟨fun | 171 => 47 | 243 => 65 | 246 => 81 | 283 => 96 | 284 => 97 | 285 => 98 | 286 => 99 | 129 => 112 | 317 => 111 | 318 => 113 | 319 => 114 | 320 => 115 | 337 => 132 | 338 => 133 | n => n, fun | 3 => 3 | 9 => 9 | 2 => 2 | 4 => 4 | 171 => 137 | 0 => 0 | 53 => 138 | 37 => 66 | 5 => 5 | 173 => 141 | 212 => 154 | 51 => 155 | 20 => 20 | 213 => 156 | 46 => 115 | 232 => 186 | 233 => 187 | n => n, fun | 17 => 2 | 18 => 3 | 19 => 4 | n => n⟩
theorem Tryz.laysM171 : Go.Proofs.LaysM.n171 Tryz.prog Tryz.laysM171_ren := {
  mixed := by kernel_rfl
  f129 := Tryz.func112.trans (congrArg some (by kernel_rfl))
  f171 := Tryz.func47.trans (congrArg some (by kernel_rfl))
  f243 := Tryz.func65.trans (congrArg some (by kernel_rfl))
  f246 := Tryz.func81.trans (congrArg some (by kernel_rfl))
  f283 := Tryz.func96.trans (congrArg some (by kernel_rfl))
  f284 := Tryz.func97.trans (congrArg some (by kernel_rfl))
  f285 := Tryz.func98.trans (congrArg some (by kernel_rfl))
  f286 := Tryz.func99.trans (congrArg some (by kernel_rfl))
  f317 := Tryz.func111.trans (congrArg some (by kernel_rfl))
  f318 := Tryz.func113.trans (congrArg some (by kernel_rfl))
  f319 := Tryz.func114.trans (congrArg some (by kernel_rfl))
  f320 := Tryz.func115.trans (congrArg some (by kernel_rfl))
  f337 := Tryz.func132.trans (congrArg some (by kernel_rfl))
  f338 := Tryz.func133.trans (congrArg some (by kernel_rfl))
  t0 := Tryz.underlying0
  a0 := Tryz.isAgg0
  z0 := Tryz.sizeOf0
  v0 := Tryz.zeroValue0
  t2 := Tryz.underlying2
  a2 := Tryz.isAgg2
  z2 := Tryz.sizeOf2
  v2 := Tryz.zeroValue2
  t3 := Tryz.underlying3
  a3 := Tryz.isAgg3
  z3 := Tryz.sizeOf3
  v3 := Tryz.zeroValue3
  t4 := Tryz.underlying4
  a4 := Tryz.isAgg4
  z4 := Tryz.sizeOf4
  v4 := Tryz.zeroValue4
  t5 := Tryz.underlying5
  a5 := Tryz.isAgg5
  z5 := Tryz.sizeOf5
  v5 := Tryz.zeroValue5
  t9 := Tryz.underlying9
  a9 := Tryz.isAgg9
  z9 := Tryz.sizeOf9
  v9 := Tryz.zeroValue9
  t20 := Tryz.underlying20
  a20 := Tryz.isAgg20
  z20 := Tryz.sizeOf20
  v20 := Tryz.zeroValue20
  t37 := Tryz.underlying66
  a37 := Tryz.isAgg66
  z37 := Tryz.sizeOf66
  v37 := Tryz.zeroValue66
  t46 := Tryz.underlying115
  a46 := Tryz.isAgg115
  z46 := Tryz.sizeOf115
  v46 := Tryz.zeroValue115
  t51 := Tryz.underlying155
  a51 := Tryz.isAgg155
  z51 := Tryz.sizeOf155
  v51 := Tryz.zeroValue155
  t53 := Tryz.underlying138
  a53 := Tryz.isAgg138
  z53 := Tryz.sizeOf138
  v53 := Tryz.zeroValue138
  t171 := Tryz.underlying137
  a171 := Tryz.isAgg137
  z171 := Tryz.sizeOf137
  v171 := Tryz.zeroValue137
  t173 := Tryz.underlying141
  a173 := Tryz.isAgg141
  z173 := Tryz.sizeOf141
  v173 := Tryz.zeroValue141
  t212 := Tryz.underlying154
  a212 := Tryz.isAgg154
  z212 := Tryz.sizeOf154
  v212 := Tryz.zeroValue154
  t213 := Tryz.underlying156
  a213 := Tryz.isAgg156
  z213 := Tryz.sizeOf156
  t232 := Tryz.underlying186
  a232 := Tryz.isAgg186
  z232 := Tryz.sizeOf186
  v232 := Tryz.zeroValue186
  t233 := Tryz.underlying187
  a233 := Tryz.isAgg187
  z233 := Tryz.sizeOf187
  v233 := Tryz.zeroValue187
  g17 := by kernel_rfl
  g18 := by kernel_rfl
  g19 := by kernel_rfl
  i0 := by kernel_rfl
  i2 := by kernel_rfl
  i3 := by kernel_rfl
  i4 := by kernel_rfl
  i5 := by kernel_rfl
  i9 := by kernel_rfl
  i20 := by kernel_rfl
  i37 := by kernel_rfl
  i46 := by kernel_rfl
  i51 := by kernel_rfl
  i53 := by kernel_rfl
  i171 := by kernel_rfl
  i173 := by kernel_rfl
  i212 := by kernel_rfl
  i232 := by kernel_rfl
  i233 := by kernel_rfl
  m17 := by kernel_rfl
  m18 := by kernel_rfl
  m19 := by kernel_rfl }
open Go.RowKit Go.Sort Go.Lib in
theorem Tryz.strconv_Itoa (n : Int) (h0 : -9223372036854775808 <= n) (h1 : n <= 9223372036854775807) (w : World) (htab : Lib.TabIs Tryz.prog w "internal/strconv.uint64pow10" .u64 Lib.pow10Tab) :
  Calls Tryz.prog 47 #[.int .i64 n] w fun e w' => e = .returned (.string ⟨(Lib.itoa n).toArray⟩) /\ ∃ k os, w' = grow (w.drewN k) os := Any.strconv_Itoa Tryz.laysM171 n h0 h1 w htab
end Go.Proofs
namespace Go.Proofs.YtifoijbpbigaaaaGreatDoor
theorem Ve (n : Int) (h : -9223372036854775808 <= n /\ n <= 9223372036854775807) : Go.IntKind.i64.wrap n = n := Go.IntWalk.i64_in n h
theorem Vf {n : Nat} : n <= n := Nat.le_refl n
theorem Vg {a : Type _} {x : a} {l : List a} {i : Nat} : (x :: l).take (i + 1) = x :: l.take i := List.take_succ_cons
theorem Vh {a : Type _} {l : List a} : l.take 0 = [] := List.take_zero
theorem Vi {a : Type _} {x : a} {l : List a} {i : Nat} : (x :: l).drop (i + 1) = l.drop i := List.drop_succ_cons
theorem Vj {a : Type _} {l : List a} : l.drop 0 = l := List.drop_zero
section
theorem Vd {p : Prop} (h : p) : Go.RowKit.Hid p := Go.Lib.hid h
open Go.RowKit
abbrev Gives (k : Nat) (args : Array Value) (v : Value) : Prop := ∀ w, Calls Tryz.prog k args w fun e w' => e = .returned v /\ Below w.heap.size w w'
abbrev Tells (k : Nat) (args : Array Value) (v : Value) : Prop := ∀ w, Calls Tryz.prog k args w fun e w' => e = .returned v /\ w = w'
theorem qQ {W w1 : World} (hb : Below W.heap.size W w1) : (∀ b o, b < W.heap.size -> w1.cell? ⟨b, o, none⟩ = W.cell? ⟨b, o, none⟩) /\ (∀ b o, b < W.heap.size -> w1.frozen? ⟨b, o, none⟩ = W.frozen? ⟨b, o, none⟩) /\ W.heap.size <= w1.heap.size :=
 ⟨fun b o h => hb.cell (p := ⟨b, o, none⟩) h, fun b o h => hb.frozen (p := ⟨b, o, none⟩) h, hb.size⟩
theorem zl {B : Nat} {w W w1 : World} (h : Below B w W) (hB : B <= W.heap.size) (hb : Below W.heap.size W w1) : Below B w w1 := h.trans (hb.mono hB)
theorem zC {k : IntKind} {a b : Int} (h : a = b) : Ending.returned (.int k a) = .returned (.int k b) := by rw [h]
theorem zv {a b : Bool} (h : a = b) : Ending.returned (.bool a) = .returned (.bool b) := by rw [h]
abbrev arr3 (a b c : Int) : Value := .agg #[.int .u8 a, .int .u8 b, .int .u8 c]
end
section
open Go.RowKit
def byt (t : ByteArray) (i : Nat) : Nat := (t.get! i).toNat
theorem jh (t : ByteArray) (i : Nat) : byt t i < 256 := (t.get! i).toNat_lt
theorem get_at (t : ByteArray) (i : Nat) (h : i < t.size) : t.get! i = t[i] := by simp [ByteArray.get!, h]; rfl
def zr (b : Nat) : Nat × Nat × Nat :=
 if b < 128 then (1, 0, 0) else if b < 194 then (0, 0, 0) else if b < 224 then (2, 128, 191) else if b = 224 then (3, 160, 191)
 else if b = 237 then (3, 128, 159) else if b < 240 then (3, 128, 191) else if b = 240 then (4, 144, 191) else if b < 244 then (4, 128, 191) else if b = 244 then (4, 128, 143) else (0, 0, 0)
def goN (t : ByteArray) (n : Nat) : Nat -> Nat -> Nat -> Nat -> Nat -> Nat × Nat
 | 0, _, _, r, _ => (r, n)
 | f + 1, lo, hi, r, i => if i = t.size then (65533, i) else if byt t i < lo \/ hi < byt t i then (65533, i) else goN t n f 128 191 (r * 64 + byt t i % 64) (i + 1)
def decB (t : ByteArray) : Nat × Nat :=
 if (zr (byt t 0)).1 = 0 then (65533, 1) else if (zr (byt t 0)).1 = 1 then (byt t 0, 1)
 else goN t (zr (byt t 0)).1 ((zr (byt t 0)).1 - 1) (zr (byt t 0)).2.1 (zr (byt t 0)).2.2 (byt t 0 % 2 ^ (7 - (zr (byt t 0)).1)) 1
theorem xA (t : ByteArray) (n f lo hi r i : Nat) (h : i = t.size) : goN t n (f + 1) lo hi r i = (65533, i) := by unfold goN; rw [if_pos h]
theorem xB (t : ByteArray) (n f lo hi r i : Nat) (h : ¬ i = t.size) (hb : byt t i < lo \/ hi < byt t i) : goN t n (f + 1) lo hi r i = (65533, i) := by unfold goN; rw [if_neg h, if_pos hb]
theorem xC (t : ByteArray) (n f lo hi r i : Nat) (h : ¬ i = t.size) (hb : ¬ (byt t i < lo \/ hi < byt t i)) : goN t n (f + 1) lo hi r i = goN t n f 128 191 (r * 64 + byt t i % 64) (i + 1) := by
 conv => lhs; unfold goN
 rw [if_neg h, if_neg hb]
theorem Zh (b : Nat) : (zr b).1 <= 4 := by unfold zr; repeat' (first | split | decide)
theorem JD (t : ByteArray) (n : Nat) (hn : n <= 4) : ∀ f lo hi r i, i + f = n -> 1 <= i -> i <= t.size -> r < 2 ^ (21 - 6 * f) ->
  1 <= (goN t n f lo hi r i).2 /\ (goN t n f lo hi r i).2 <= t.size /\ (goN t n f lo hi r i).1 < 2097152 := by
 intro f
 induction f with
 | zero =>
  intro lo hi r i h1 h2 h3 h4
  unfold goN
  refine ⟨by simp; omega, by simp; omega, by simpa using h4⟩
 | succ f ih =>
  intro lo hi r i h1 h2 h3 h4
  by_cases e : i = t.size
  ·rw [xA _ _ _ _ _ _ _ e]; exact ⟨h2, by simp; omega, by simp⟩
  ·by_cases b : byt t i < lo \/ hi < byt t i
   ·rw [xB _ _ _ _ _ _ _ e b]; exact ⟨h2, h3, by simp⟩
   ·rw [xC _ _ _ _ _ _ _ e b]
    refine ih _ _ _ _ (by omega) (by omega) (by omega) ?_
    have hf : f <= 2 := by omega
    have : f = 0 \/ f = 1 \/ f = 2 := by omega
    rcases this with rfl | rfl | rfl <;> simp at h4 ⊢ <;> omega
theorem j8 (t : ByteArray) (h : 0 < t.size) : 1 <= (decB t).2 /\ (decB t).2 <= t.size /\ (decB t).1 < 2097152 := by
 unfold decB
 split
 ·exact ⟨by simp, h, by simp⟩
 ·split
  ·exact ⟨by simp, h, by have := jh t 0; simp; omega⟩
  ·have hl := Zh (byt t 0)
   refine JD t _ hl _ _ _ _ _ (by omega) (by decide) h ?_
   have : (zr (byt t 0)).1 = 2 \/ (zr (byt t 0)).1 = 3 \/ (zr (byt t 0)).1 = 4 := by omega
   rcases this with e | e | e <;> rw [e] <;> simp <;> omega
def jJ : Nat -> ByteArray -> List Int
 | 0, _ => []
 | f + 1, t => if t.size = 0 then [] else ((decB t).1 : Int) :: jJ f (t.extract (decB t).2 t.size)
theorem JE : ∀ f g t, t.size <= f -> t.size <= g -> jJ f t = jJ g t := by
 intro f
 induction f with
 | zero =>
  intro g t h1 h2
  cases g with
  | zero => rfl
  | succ g => unfold jJ; rw [if_pos (by omega)]
 | succ f ih =>
  intro g t h1 h2
  cases g with
  | zero => unfold jJ; rw [if_pos (by omega)]
  | succ g =>
   unfold jJ
   by_cases z : t.size = 0
   ·rw [if_pos z, if_pos z]
   ·rw [if_neg z, if_neg z]
    have b := j8 t (by omega)
    rw [ih g _ (by rw [ByteArray.size_extract]; omega) (by rw [ByteArray.size_extract]; omega)]
def zt (t : ByteArray) : List Int := jJ t.size t
theorem x5 (t : ByteArray) (h : t.size = 0) : zt t = [] := by unfold zt; rw [h]; rfl
theorem x6 (t : ByteArray) (h : 0 < t.size) : zt t = ((decB t).1 : Int) :: zt (t.extract (decB t).2 t.size) := by
 obtain ⟨n, hn⟩ : ∃ n, t.size = n + 1 := ⟨t.size - 1, by omega⟩
 have b := j8 t h
 unfold zt
 rw [hn]
 conv => lhs; unfold jJ
 rw [if_neg (by omega), hn]
 rw [JE n (t.extract (decB t).2 (n + 1)).size _ (by rw [ByteArray.size_extract]; omega) Vf]
theorem x7 : ∀ n t, t.size = n -> (zt t).length <= n := by
 intro n
 induction n using Nat.strongRecOn with
 | ind n ih =>
  intro t h
  by_cases z : t.size = 0
  ·rw [x5 t z]; simp
  ·rw [x6 t (by omega), List.length_cons]
   have b := j8 t (by omega)
   have := ih (t.size - (decB t).2) (by omega) (t.extract (decB t).2 t.size) (by rw [ByteArray.size_extract]; omega)
   omega
theorem Zi : ∀ n t, t.size = n -> ∀ r ∈ zt t, 0 <= r /\ r < 2097152 := by
 intro n
 induction n using Nat.strongRecOn with
 | ind n ih =>
  intro t h r hr
  by_cases z : t.size = 0
  ·rw [x5 t z] at hr; cases hr
  ·rw [x6 t (by omega)] at hr
   have b := j8 t (by omega)
   rcases List.mem_cons.1 hr with e | e
   ·omega
   ·exact ih (t.size - (decB t).2) (by omega) (t.extract (decB t).2 t.size) (by rw [ByteArray.size_extract]; omega) r e
def zq (r : Int) : Int := if 0 <= r /\ r <= 1114111 /\ (r < 55296 \/ 57343 < r) then r else 65533
def qq (r : Int) : List Int :=
 if zq r < 128 then [zq r]
 else if zq r < 2048 then [192 + zq r / 64, 128 + zq r % 64]
 else if zq r < 65536 then [224 + zq r / 4096, 128 + zq r / 64 % 64, 128 + zq r % 64]
 else [240 + zq r / 262144, 128 + zq r / 4096 % 64, 128 + zq r / 64 % 64, 128 + zq r % 64]
def zo (l : List Int) : List Int := l.flatMap qq
def barr (l : List Int) : ByteArray := ⟨(l.map fun n => UInt8.ofNat n.toNat).toArray⟩
theorem kR (r : Int) : 0 <= zq r /\ zq r <= 1114111 := by unfold zq; split <;> omega
theorem JF (r : Int) : ∀ b ∈ qq r, 0 <= b /\ b < 256 := by
 have h := kR r
 unfold qq
 generalize zq r = c at *
 intro b hb
 repeat' split at hb
 all_goals simp at hb
 all_goals (first | (subst hb; omega) | (rcases hb with rfl | rfl <;> omega) | (rcases hb with rfl | rfl | rfl <;> omega) | (rcases hb with rfl | rfl | rfl | rfl <;> omega))
theorem Zj (r : Int) : 1 <= (qq r).length /\ (qq r).length <= 4 := by
 unfold qq
 repeat' split
 all_goals simp
theorem JG (r : Int) (l : List Int) : zo (r :: l) = qq r ++ zo l := by unfold zo; exact List.flatMap_cons ..
theorem Zk (r : Int) (l : List Int) : zo (l ++ [r]) = zo l ++ qq r := by simp [zo]
theorem kS (l : List Int) : (zo l).length <= 4 * l.length := by
 induction l with
 | nil => simp [zo]
 | cons r l ih => rw [JG, List.length_append, List.length_cons]; have := Zj r; omega
theorem Zl (s : ByteArray) (l : List UInt8) : (s.toList == l) = decide (s = ⟨l.toArray⟩) := by
 rw [ByteArray.toList_eq]
 by_cases h : s = ⟨l.toArray⟩
 ·subst h; simp
 ·rw [decide_eq_false h]
  rw [beq_eq_false_iff_ne]
  intro e
  apply h
  apply ByteArray.ext
  rw [<- e, Array.toArray_toList]
theorem x8 (s t : ByteArray) : (s.toList == t.toList) = decide (s = t) := by
 rw [Zl, ByteArray.toList_eq, Array.toArray_toList]
end
section
open Go.RowKit
def lowK : List (Int × Int × Int) := [
 (0, 31, 1), (127, 159, 1), (169, 169, 8), (174, 174, 8), (768, 879, 2), (1155, 1161, 2), (1425, 1469, 2), (1552, 1562, 2), (1611, 1631, 2), (1750, 1756, 2), (2304, 2306, 2), 
 (2364, 2364, 2), (2369, 2376, 2), (3636, 3642, 2), (3655, 3662, 2), (4352, 4447, 7), (6832, 6862, 2), (7616, 7679, 2), (8203, 8204, 2), (8205, 8205, 3), (8206, 8207, 2), 
 (8234, 8238, 2), (8252, 8252, 8), (8265, 8265, 8), (8288, 8292, 2), (8400, 8432, 2), (8482, 8482, 8), (8592, 8703, 8)]
def midK : List (Int × Int × Int) := [
 (8960, 8985, 8), (8986, 8987, 7), (8988, 9192, 8), (9193, 9196, 7), (9197, 9215, 8), (9725, 9726, 7), (9728, 9747, 8), (9748, 9749, 7), (9750, 9799, 8), (9800, 9811, 7), 
 (9812, 9888, 8), (9889, 9889, 7), (9890, 9897, 8), (9898, 9899, 7), (9900, 9916, 8), (9917, 9918, 7), (9919, 9939, 8), (9940, 9940, 7), (9941, 9969, 8), (9970, 9973, 7), 
 (9974, 9988, 8), (9989, 9989, 7), (9990, 9993, 8), (9994, 9995, 7), (9996, 10023, 8), (10024, 10024, 7), (10025, 10059, 8), (10060, 10060, 7), (10061, 10066, 8), 
 (10067, 10071, 7), (10072, 10132, 8), (10133, 10135, 7), (10136, 10175, 8)]
def j9 : List (Int × Int × Int) := [
 (11904, 12350, 7), (12353, 19903, 7), (19968, 42191, 7), (43360, 43388, 7), (44032, 55203, 7), (55296, 57343, 0), (63744, 64255, 7), (65024, 65039, 4), (65056, 65071, 2), 
 (65072, 65135, 7), (65279, 65279, 2), (65281, 65376, 7), (65504, 65510, 7), (127462, 127487, 6), (127744, 127994, 7), (127995, 127999, 5), (128000, 128591, 7), 
 (128640, 128767, 7), (129280, 129535, 7), (131072, 196605, 7), (196608, 262141, 7), (917536, 917631, 2), (917760, 917999, 2)]
def qV : List (Int × Int × Int) -> Int -> Int
 | [], _ => 9
 | (a, e, c) :: l, r => if a <= r /\ r <= e then c else qV l r
def za (r : Int) : Int :=
 if r < 0 \/ 1114111 < r then 0 else if 32 <= r /\ r < 127 then 9 else qV (if 10175 < r then j9 else if 8960 <= r then midK else lowK) r
def told0 : List (Int × Int) := [
  (55296, 57343)]
def told1 : List (Int × Int) := [
  (0, 31), (127, 159)]
def told2 : List (Int × Int) := [
  (768, 879), (1155, 1161), (1425, 1469), (1552, 1562), (1611, 1631), (1750, 1756), (2304, 2306), (2364, 2364), (2369, 2376), (3636, 3642), (3655, 3662), (6832, 6862), 
  (7616, 7679), (8203, 8204), (8206, 8207), (8234, 8238), (8288, 8292), (8400, 8432), (65056, 65071), (65279, 65279), (917536, 917631), (917760, 917999)]
def told3 : List (Int × Int) := [
  (8205, 8205)]
def told4 : List (Int × Int) := [
  (65024, 65039)]
def told5 : List (Int × Int) := [
  (127995, 127999)]
def told6 : List (Int × Int) := [
  (127462, 127487)]
def told7 : List (Int × Int) := [
  (4352, 4447), (8986, 8987), (9193, 9196), (9725, 9726), (9748, 9749), (9800, 9811), (9889, 9889), (9898, 9899), (9917, 9918), (9940, 9940), (9970, 9973), (9989, 9989), 
  (9994, 9995), (10024, 10024), (10060, 10060), (10067, 10071), (10133, 10135), (11904, 12350), (12353, 19903), (19968, 42191), (43360, 43388), (44032, 55203), (63744, 64255), 
  (65072, 65135), (65281, 65376), (65504, 65510), (127744, 127994), (128000, 128591), (128640, 128767), (129280, 129535), (131072, 196605), (196608, 262141)]
def told8 : List (Int × Int) := [
  (169, 169), (174, 174), (8252, 8252), (8265, 8265), (8482, 8482), (8592, 8703), (8960, 8985), (8988, 9192), (9197, 9215), (9728, 9747), (9750, 9799), (9812, 9888), (9890, 9897), 
  (9900, 9916), (9919, 9939), (9941, 9969), (9974, 9988), (9990, 9993), (9996, 10023), (10025, 10059), (10061, 10066), (10072, 10132), (10136, 10175)]
def qr : Nat -> List (Int × Int)
 | 0 => told0
 | 1 => told1
 | 2 => told2
 | 3 => told3
 | 4 => told4
 | 5 => told5
 | 6 => told6
 | 7 => told7
 | 8 => told8
 | _ => []
def qt (l : List (Int × Int)) (r : Int) : Nat := (List.range l.length).countP fun i => !decide (r <= (l.getD i (0, 0)).2)
def jb (l : List (Int × Int)) (r : Int) : Bool := decide (qt l r < l.length) && decide ((l.getD (qt l r) (0, 0)).1 <= r)
def qx (r : Int) : Nat -> Nat -> Int
 | 0, _ => 9
 | f + 1, c => if jb (qr c) r = true then (c : Int) else qx r f (c + 1)
def jT (r : Int) : Int := if r < 0 \/ 1114111 < r then 0 else qx r 9 0
def bpK : List Int := [
 0, 32, 127, 160, 169, 170, 174, 175, 768, 880, 1155, 1162, 1425, 1470, 1552, 1563, 1611, 1632, 1750, 1757, 2304, 2307, 2364, 2365, 2369, 2377, 3636, 3643, 3655, 3663, 4352, 4448, 
 6832, 6863, 7616, 7680, 8203, 8205, 8206, 8208, 8234, 8239, 8252, 8253, 8265, 8266, 8288, 8293, 8400, 8433, 8482, 8483, 8592, 8704, 8960, 8986, 8988, 9193, 9197, 9216, 9725, 9727, 
 9728, 9748, 9750, 9800, 9812, 9889, 9890, 9898, 9900, 9917, 9919, 9940, 9941, 9970, 9974, 9989, 9990, 9994, 9996, 10024, 10025, 10060, 10061, 10067, 10072, 10133, 10136, 10176, 
 11904, 12351, 12353, 19904, 19968, 42192, 43360, 43389, 44032, 55204, 55296, 57344, 63744, 64256, 65024, 65040, 65056, 65072, 65136, 65279, 65280, 65281, 65377, 65504, 65511, 
 127462, 127488, 127744, 127995, 128000, 128592, 128640, 128768, 129280, 129536, 131072, 196606, 196608, 262142, 917536, 917632, 917760, 918000, 1114112]
theorem Zm (r : Int) (hr : 0 <= r) : ∀ B : List Int, ∃ b ∈ 0 :: B, b <= r /\ ∀ x ∈ B, x <= r -> x <= b
 | [] => ⟨0, by simp, hr, by simp⟩
 | y :: B => by
  obtain ⟨b, hb, h1, h2⟩ := Zm r hr B
  by_cases hy : y <= r /\ b < y
  ·exact ⟨y, by simp, hy.1, fun x hx hxr => by
    rcases List.mem_cons.1 hx with rfl | hx
    ·exact Int.le_refl _
    ·have := h2 x hx hxr; omega⟩
  ·refine ⟨b, by rcases List.mem_cons.1 hb with rfl | hb <;> simp [*], h1, fun x hx hxr => ?_⟩
   rcases List.mem_cons.1 hx with rfl | hx
   ·omega
   ·exact h2 x hx hxr
def Near (b r : Int) : Prop := b <= r /\ ∀ x ∈ bpK, x <= r -> x <= b
theorem Near.le {b r x : Int} (h : Near b r) (hx : x ∈ bpK) : x <= r ↔ x <= b := ⟨h.2 x hx, fun y => Int.le_trans y h.1⟩
theorem Zn (b r : Int) (h : Near b r) : ∀ l : List (Int × Int × Int), (∀ p ∈ l, p.1 ∈ bpK /\ p.2.1 + 1 ∈ bpK) -> qV l r = qV l b
 | [], _ => rfl
 | (a, e, c) :: l, hl => by
  have q := hl (a, e, c) (by simp)
  have h1 := h.le q.1
  have h2 := h.le q.2
  simp only at h1 h2
  unfold qV
  rw [Zn b r h l (fun p hp => hl p (by simp [hp]))]
  have z : (a <= r /\ r <= e) ↔ (a <= b /\ b <= e) := by omega
  simp only [z]
theorem JI (b r : Int) (h : Near b r) (l : List (Int × Int)) (hl : ∀ p ∈ l, p.1 ∈ bpK /\ p.2 + 1 ∈ bpK) : qt l r = qt l b := by
 unfold qt
 refine List.countP_congr fun i hi => ?_
 have lt : i < l.length := List.mem_range.1 hi
 have e : l.getD i (0, 0) = l[i] := by simp [lt]
 rw [e]
 have h2 := h.le (hl l[i] (List.getElem_mem _)).2
 have : r <= l[i].2 ↔ b <= l[i].2 := by omega
 simp only [this]
theorem JJ (b r : Int) (h : Near b r) (l : List (Int × Int)) (hl : ∀ p ∈ l, p.1 ∈ bpK /\ p.2 + 1 ∈ bpK) : jb l r = jb l b := by
 unfold jb
 rw [JI b r h l hl]
 by_cases lt : qt l b < l.length
 ·have e : l.getD (qt l b) (0, 0) = l[qt l b] := by simp [lt]
  rw [e]
  have h1 := h.le (hl l[qt l b] (List.getElem_mem _)).1
  simp only [h1]
 ·simp [lt]
theorem bp_of : (∀ p ∈ lowK ++ midK ++ j9, p.1 ∈ bpK /\ p.2.1 + 1 ∈ bpK) /\ (∀ c : Fin 9, ∀ p ∈ qr c.val, p.1 ∈ bpK /\ p.2 + 1 ∈ bpK) /\ (0 ∈ bpK /\ 32 ∈ bpK /\ 127 ∈ bpK /\ 8960 ∈ bpK /\ 10176 ∈ bpK /\ 1114112 ∈ bpK) := by decide +kernel
theorem Zo (b r : Int) (h : Near b r) : ∀ f c, c + f <= 9 -> qx r f c = qx b f c
 | 0, _, _ => rfl
 | f + 1, c, hc => by
  unfold qx
  rw [Zo b r h f (c + 1) (by omega), JJ b r h (qr c) (bp_of.2.1 ⟨c, by omega⟩)]
theorem kinds_bp : ∀ b ∈ bpK, za b = jT b := by decide +kernel
theorem Zp (r : Int) : za r = jT r := by
 by_cases h0 : r < 0 \/ 1114111 < r
 ·unfold za jT
  rw [if_pos h0, if_pos h0]
 ·obtain ⟨b, hb, hb1, hb2⟩ := Zm r (by omega) bpK
  have hbm : b ∈ bpK := by
   rcases List.mem_cons.1 hb with e | e
   ·rw [e]; exact bp_of.2.2.1
   ·exact e
  have n : Near b r := ⟨hb1, hb2⟩
  obtain ⟨z0, z1, z2, z3, z4, z5⟩ := bp_of.2.2
  have w0 := n.le z0
  have w1 := n.le z1
  have w2 := n.le z2
  have w3 := n.le z3
  have w4 := n.le z4
  have w5 := n.le z5
  have e1 : za r = za b := by
   unfold za
   have n0 : ¬ (b < 0 \/ 1114111 < b) := by omega
   rw [if_neg h0, if_neg n0]
   have s1 : (32 <= r /\ r < 127) ↔ (32 <= b /\ b < 127) := by omega
   have s2 : 10175 < r ↔ 10175 < b := by omega
   have s3 : 8960 <= r ↔ 8960 <= b := by omega
   simp only [s1, s2, s3]
   rw [Zn b r n _ (fun p hp => by
    refine bp_of.1 p ?_
    split at hp
    ·simp [hp]
    ·split at hp <;> simp [hp])]
  have e2 : jT r = jT b := by
   unfold jT
   rw [if_neg h0, if_neg (by omega), Zo b r n 9 0 (by decide)]
  rw [e1, e2, kinds_bp b hbm]
theorem JK : ∀ c : Fin 9, ∀ i : Fin 40, ∀ j : Fin 40, i.val <= j.val -> j.val < (qr c.val).length -> ((qr c.val).getD i.val (0, 0)).2 <= ((qr c.val).getD j.val (0, 0)).2 := by decide +kernel
theorem told_len : ∀ c : Fin 9, (qr c.val).length <= 40 := by decide +kernel
end
section
open Go.RowKit
def picK (k : Int) : Bool := decide (k = 7) || decide (k = 8)
def qF (base ahead next : Int) : Bool :=
 if za next = 2 \/ za next = 4 \/ za next = 3 then true
 else if za next = 5 then picK base
 else if za next = 7 \/ za next = 8 then picK base && decide (za ahead = 3)
 else false
def zF (l : List Int) (base : Int) : Nat -> Nat -> Nat
 | 0, n => n
 | f + 1, n => if n < l.length /\ qF base (l.getD (n - 1) 0) (l.getD n 0) = true then zF l base f (n + 1) else n
def qu (l : List Int) : Nat := if za (l.getD 0 0) = 6 /\ 1 < l.length /\ za (l.getD 1 0) = 6 then 2 else 1
def zp (l : List Int) : Nat := if za (l.getD 0 0) = 1 then 1 else zF l (za (l.getD 0 0)) (16 - qu l) (qu l)
def qW (l : List Int) : Int :=
 if za (l.getD 0 0) = 1 \/ za (l.getD 0 0) = 2 \/ za (l.getD 0 0) = 4 \/ za (l.getD 0 0) = 3 then 0
 else if za (l.getD 0 0) = 7 \/ za (l.getD 0 0) = 5 then 2
 else if za (l.getD 0 0) = 8 then (if 1 < l.length /\ l.getD 1 0 = 65039 then 2 else 1)
 else if za (l.getD 0 0) = 6 then (if 1 < l.length /\ za (l.getD 1 0) = 6 then 2 else 1)
 else 1
theorem Zq (l : List Int) (base : Int) (f n : Nat) (h : ¬ (n < l.length /\ qF base (l.getD (n - 1) 0) (l.getD n 0) = true)) : zF l base f n = n := by
 cases f with
 | zero => rfl
 | succ f => unfold zF; rw [if_neg h]
theorem Zr (l : List Int) (base : Int) (f n : Nat) (h : n < l.length /\ qF base (l.getD (n - 1) 0) (l.getD n 0) = true) : zF l base (f + 1) n = zF l base f (n + 1) := by
 conv => lhs; unfold zF
 rw [if_pos h]
theorem Zs (l : List Int) (base : Int) : ∀ f n, n <= l.length -> n <= zF l base f n /\ zF l base f n <= l.length /\ zF l base f n <= n + f := by
 intro f
 induction f with
 | zero => intro n h; unfold zF; omega
 | succ f ih =>
  intro n h
  by_cases c : n < l.length /\ qF base (l.getD (n - 1) 0) (l.getD n 0) = true
  ·rw [Zr l base f n c]; have := ih (n + 1) (by omega); omega
  ·rw [Zq l base (f + 1) n c]; omega
theorem xd (l : List Int) (h : l ≠ []) : 1 <= zp l /\ zp l <= l.length /\ zp l <= 16 := by
 have hp := List.length_pos_iff.2 h
 unfold zp
 split
 ·omega
 ·have hb : 1 <= qu l /\ qu l <= l.length /\ qu l <= 2 := by
   unfold qu
   split
   ·rename_i c; omega
   ·omega
  have := Zs l (za (l.getD 0 0)) (16 - qu l) (qu l) hb.2.1
  omega
def clF : Nat -> List Int -> List (List Int × Int)
 | 0, _ => []
 | f + 1, l => if l = [] then [] else (zo (l.take (zp l)), qW (l.take (zp l))) :: clF f (l.drop (zp l))
theorem clF_more : ∀ f g l, l.length <= f -> l.length <= g -> clF f l = clF g l := by
 intro f
 induction f with
 | zero =>
  intro g l h1 h2
  have e : l = [] := List.length_eq_zero_iff.1 (by omega)
  cases g with
  | zero => rfl
  | succ g => unfold clF; rw [if_pos e]
 | succ f ih =>
  intro g l h1 h2
  cases g with
  | zero =>
   have e : l = [] := List.length_eq_zero_iff.1 (by omega)
   unfold clF; rw [if_pos e]
  | succ g =>
   unfold clF
   by_cases z : l = []
   ·rw [if_pos z, if_pos z]
   ·rw [if_neg z, if_neg z]
    have b := xd l z
    rw [ih g _ (by rw [List.length_drop]; omega) (by rw [List.length_drop]; omega)]
def clL (l : List Int) : List (List Int × Int) := clF l.length l
theorem kT : clL [] = [] := rfl
theorem kU (l : List Int) (h : l ≠ []) : clL l = (zo (l.take (zp l)), qW (l.take (zp l))) :: clL (l.drop (zp l)) := by
 have hp := List.length_pos_iff.2 h
 obtain ⟨n, hn⟩ : ∃ n, l.length = n + 1 := ⟨l.length - 1, by omega⟩
 have b := xd l h
 unfold clL
 rw [hn]
 conv => lhs; unfold clF
 rw [if_neg h]
 rw [clF_more n (l.drop (zp l)).length _ (by rw [List.length_drop]; omega) Vf]
theorem clL_len : ∀ n l, l.length = n -> (clL l).length <= n := by
 intro n
 induction n using Nat.strongRecOn with
 | ind n ih =>
  intro l h
  by_cases z : l = []
  ·subst z; simp [kT]
  ·rw [kU l z, List.length_cons]
   have b := xd l z
   have := ih (l.length - zp l) (by omega) (l.drop (zp l)) (by rw [List.length_drop])
   omega
def zu (s : ByteArray) : List (ByteArray × Int) := (clL (zt s)).map fun c => (barr c.1, c.2)
theorem jv (s : ByteArray) : (zu s).length <= s.size := by
 unfold zu
 rw [List.length_map]
 have := clL_len _ (zt s) rfl
 have := x7 _ s rfl
 omega
def ji (l : List Int) : Int :=
 if za (l.getD 0 0) = 1 then 0
 else if za (l.getD 0 0) = 8 /\ 1 < l.length /\ l.getD 1 0 = 65039 then 2
 else if za (l.getD 0 0) = 6 /\ 1 < l.length /\ za (l.getD 1 0) = 6 then 2
 else if za (l.getD 0 0) = 2 \/ za (l.getD 0 0) = 4 \/ za (l.getD 0 0) = 3 then 0
 else if za (l.getD 0 0) = 7 \/ za (l.getD 0 0) = 5 then 2
 else 1
theorem JL : za 65039 = 4 := by decide +kernel
theorem JM (l : List Int) (h : l ≠ []) : qW (l.take (zp l)) = ji l := by
 have b := xd l h
 have e0 : (l.take (zp l)).getD 0 0 = l.getD 0 0 := by
  simp [List.getD_eq_getElem?_getD, show 0 < zp l by omega]
 have len : (l.take (zp l)).length = zp l := by rw [List.length_take]; omega
 have e1 : 1 < zp l -> (l.take (zp l)).getD 1 0 = l.getD 1 0 := by
  intro z
  simp [List.getD_eq_getElem?_getD, z]
 have hp := List.length_pos_iff.2 h
 unfold qW ji
 rw [e0, len]
 have FC : zp l = if za (l.getD 0 0) = 1 then 1 else zF l (za (l.getD 0 0)) (16 - qu l) (qu l) := rfl
 have BK : qu l = if za (l.getD 0 0) = 6 /\ 1 < l.length /\ za (l.getD 1 0) = 6 then 2 else 1 := rfl
 have GG : ∀ f n, n <= l.length -> n <= zF l (za (l.getD 0 0)) f n := fun f n hn => (Zs l _ f n hn).1
 have GS : 1 < l.length -> l.getD 1 0 = 65039 -> zF l (za (l.getD 0 0)) 15 1 = zF l (za (l.getD 0 0)) 14 2 := fun h1 h2 => Zr l _ 14 1 ⟨h1, by
  unfold qF
  rw [h2, JL]
  simp⟩
 generalize za (l.getD 0 0) = k at *
 generalize (l.take (zp l)).getD 1 0 = q1 at *
 generalize l.getD 1 0 = q at *
 by_cases k1 : k = 1
 ·rw [if_pos (Or.inl k1), if_pos k1]
 rw [if_neg k1] at FC
 by_cases k8 : k = 8
 ·rw [if_neg (by omega), if_neg (by omega), if_pos k8, if_neg k1]
  rw [if_neg (by omega)] at BK
  rw [BK] at FC
  by_cases c : 1 < l.length /\ q = 65039
  ·rw [if_pos (⟨k8, c⟩ : k = 8 /\ 1 < l.length /\ q = 65039)]
   have g : 1 < zp l := by
    rw [FC]
    have h1 := GS c.1 c.2
    have h2 := GG 14 2 (by omega)
    show 1 < zF l k 15 1
    omega
   rw [if_pos ⟨g, by rw [e1 g]; exact c.2⟩]
  ·have n1 : ¬ (1 < zp l /\ q1 = 65039) := fun z => c ⟨by omega, by rw [<- e1 z.1]; exact z.2⟩
   rw [if_neg n1, if_neg (show ¬ (k = 8 /\ 1 < l.length /\ q = 65039) from fun z => c z.2), if_neg (show ¬ (k = 6 /\ 1 < l.length /\ za q = 6) by omega), if_neg (by omega), if_neg (by omega)]
 by_cases k6 : k = 6
 ·rw [if_neg (by omega), if_neg (by omega), if_neg k8, if_pos k6, if_neg k1, if_neg (show ¬ (k = 8 /\ 1 < l.length /\ q = 65039) from fun z => k8 z.1)]
  by_cases c : 1 < l.length /\ za q = 6
  ·rw [if_pos (⟨k6, c⟩ : k = 6 /\ 1 < l.length /\ za q = 6)]
   rw [if_pos ⟨k6, c⟩] at BK
   rw [BK] at FC
   have g : 1 < zp l := by
    rw [FC]
    have h2 := GG 14 2 (by omega)
    show 1 < zF l k 14 2
    omega
   rw [if_pos ⟨g, by rw [e1 g]; exact c.2⟩]
  ·have n1 : ¬ (1 < zp l /\ za q1 = 6) := fun z => c ⟨by omega, by rw [<- e1 z.1]; exact z.2⟩
   rw [if_neg n1, if_neg (show ¬ (k = 6 /\ 1 < l.length /\ za q = 6) from fun z => c z.2), if_neg (by omega), if_neg (by omega)]
 ·rw [if_neg k1, if_neg (show ¬ (k = 8 /\ 1 < l.length /\ q = 65039) from fun z => k8 z.1), if_neg (show ¬ (k = 6 /\ 1 < l.length /\ za q = 6) from fun z => k6 z.1)]
  by_cases c2 : k = 2 \/ k = 4 \/ k = 3
  ·rw [if_pos (Or.inr c2), if_pos c2]
  ·rw [if_neg (show ¬ (k = 1 \/ k = 2 \/ k = 4 \/ k = 3) by omega), if_neg c2]
   by_cases c7 : k = 7 \/ k = 5
   ·rw [if_pos c7, if_pos c7]
   ·rw [if_neg c7, if_neg c7, if_neg k8, if_neg k6]
end
section
open Go.RowKit
def zE (c : Int) : Bool := decide (c = 0 \/ c = 1 \/ (256 <= c /\ c < 512) \/ (16777216 <= c /\ c < 33554432))
def cnt (c : Int) : Int := if zE c = true then c else 0
theorem kV (c : Int) : Tells 78 #[.int .i32 c] (.bool (zE c)) := by
 intro w
 by_cases h0 : c = 0
 ·subst h0
  go_enter Tryz.func78, Tryz.ntmps78
  go_wp2
  go_ret
  exact ⟨rfl, rfl⟩
 by_cases h1 : c = 1
 ·subst h1
  go_enter Tryz.func78, Tryz.ntmps78
  go_wp2
  go_ret
  exact ⟨rfl, rfl⟩
 by_cases h2 : 16777216 <= c
 ·by_cases h3 : c < 33554432
  all_goals
   have H : Hid (zE c = decide (c < 33554432)) := by unfold zE Hid; rw [decide_eq_decide]; omega
   go_enter Tryz.func78, Tryz.ntmps78
   go_wp2
   go_ret
   exact ⟨zv (by rw [H.out]; simp [h3]), rfl⟩
 ·by_cases h3 : 256 <= c
  ·by_cases h4 : c < 512
   all_goals
    have H : Hid (zE c = decide (c < 512)) := by unfold zE Hid; rw [decide_eq_decide]; omega
    go_enter Tryz.func78, Tryz.ntmps78
    go_wp2
    go_ret
    exact ⟨zv (by rw [H.out]; simp [h4]), rfl⟩
  ·have H : Hid (zE c = false) := by unfold zE Hid; rw [decide_eq_false_iff_not]; omega
   go_enter Tryz.func78, Tryz.ntmps78
   go_wp2
   go_ret
   exact ⟨zv (by rw [H.out]), rfl⟩
theorem jU (c : Int) : Tells 62 #[.int .i32 c] (.int .i32 (cnt c)) := by
 intro w
 cases h : zE c
 all_goals
  have H : Hid (cnt c = if zE c = true then c else 0) := rfl
  go_enter Tryz.func62, Tryz.ntmps62
  go_wp2_with (go_at_call 78; refine (kV _ _).mono ?_; rintro e w' ⟨rfl, rfl⟩; rw [h])
  go_ret
  exact ⟨zC (by rw [H.out, h]; simp), rfl⟩
def lev (n : Int) : Int := if n = 0 then 0 else 55 + 40 * n
def zY (b lo hi : Int) : Int := if b = 1 then hi else lo
def pr (n : Int) : Int := if n < 8 then zY (n % 2) 0 170 else if n < 16 then zY (n % 2) 85 255 else if n < 232 then lev ((n - 16) / 36) else 8 + 10 * (n - 232)
def pg (n : Int) : Int := if n < 8 then zY (n / 2 % 2) 0 170 else if n < 16 then zY (n / 2 % 2) 85 255 else if n < 232 then lev ((n - 16) / 6 % 6) else 8 + 10 * (n - 232)
def pb (n : Int) : Int := if n < 8 then zY (n / 4 % 2) 0 170 else if n < 16 then zY (n / 4 % 2) 85 255 else if n < 232 then lev ((n - 16) % 6) else 8 + 10 * (n - 232)
theorem JN (n : Int) (h0 : 0 <= n) (h1 : n <= 5) : Tells 95 #[.int .i64 n] (.int .u8 (lev n)) := by
 intro w
 by_cases h : n = 0
 ·subst h
  go_enter Tryz.func95, Tryz.ntmps95
  go_wp2
  go_ret
  exact ⟨rfl, rfl⟩
 ·have H : Hid (lev n = 55 + 40 * n) := by unfold lev Hid; rw [if_neg h]
  go_enter Tryz.func95, Tryz.ntmps95
  go_wp2
  go_ret
  exact ⟨zC (by rw [H.out]), rfl⟩
set_option maxHeartbeats 4000000 in
theorem JP (n : Int) (h0 : 0 <= n) (h1 : n < 16) : Gives 79 #[.int .i64 n] (arr3 (pr n) (pg n) (pb n)) := by
 intro w
 have : n = 0 \/ n = 1 \/ n = 2 \/ n = 3 \/ n = 4 \/ n = 5 \/ n = 6 \/ n = 7 \/ n = 8 \/ n = 9 \/ n = 10 \/ n = 11 \/ n = 12 \/ n = 13 \/ n = 14 \/ n = 15 := by omega
 clear h0 h1
 rcases this with rfl | rfl | rfl | rfl | rfl | rfl | rfl | rfl | rfl | rfl | rfl | rfl | rfl | rfl | rfl | rfl
 ·go_enter Tryz.func79, Tryz.ntmps79
  go_wp2
  go_rounds 4
  exact bodyPost_ret (v := arr3 0 0 0) (by simp [arr3, results, Tryz.results79, go_sem]) rfl ⟨rfl, by go_grown⟩
 ·go_enter Tryz.func79, Tryz.ntmps79
  go_wp2
  go_rounds 4
  exact bodyPost_ret (v := arr3 170 0 0) (by simp [arr3, results, Tryz.results79, go_sem]) rfl ⟨rfl, by go_grown⟩
 ·go_enter Tryz.func79, Tryz.ntmps79
  go_wp2
  go_rounds 4
  exact bodyPost_ret (v := arr3 0 170 0) (by simp [arr3, results, Tryz.results79, go_sem]) rfl ⟨rfl, by go_grown⟩
 ·go_enter Tryz.func79, Tryz.ntmps79
  go_wp2
  go_rounds 4
  exact bodyPost_ret (v := arr3 170 170 0) (by simp [arr3, results, Tryz.results79, go_sem]) rfl ⟨rfl, by go_grown⟩
 ·go_enter Tryz.func79, Tryz.ntmps79
  go_wp2
  go_rounds 4
  exact bodyPost_ret (v := arr3 0 0 170) (by simp [arr3, results, Tryz.results79, go_sem]) rfl ⟨rfl, by go_grown⟩
 ·go_enter Tryz.func79, Tryz.ntmps79
  go_wp2
  go_rounds 4
  exact bodyPost_ret (v := arr3 170 0 170) (by simp [arr3, results, Tryz.results79, go_sem]) rfl ⟨rfl, by go_grown⟩
 ·go_enter Tryz.func79, Tryz.ntmps79
  go_wp2
  go_rounds 4
  exact bodyPost_ret (v := arr3 0 170 170) (by simp [arr3, results, Tryz.results79, go_sem]) rfl ⟨rfl, by go_grown⟩
 ·go_enter Tryz.func79, Tryz.ntmps79
  go_wp2
  go_rounds 4
  exact bodyPost_ret (v := arr3 170 170 170) (by simp [arr3, results, Tryz.results79, go_sem]) rfl ⟨rfl, by go_grown⟩
 ·go_enter Tryz.func79, Tryz.ntmps79
  go_wp2
  go_rounds 4
  exact bodyPost_ret (v := arr3 85 85 85) (by simp [arr3, results, Tryz.results79, go_sem]) rfl ⟨rfl, by go_grown⟩
 ·go_enter Tryz.func79, Tryz.ntmps79
  go_wp2
  go_rounds 4
  exact bodyPost_ret (v := arr3 255 85 85) (by simp [arr3, results, Tryz.results79, go_sem]) rfl ⟨rfl, by go_grown⟩
 ·go_enter Tryz.func79, Tryz.ntmps79
  go_wp2
  go_rounds 4
  exact bodyPost_ret (v := arr3 85 255 85) (by simp [arr3, results, Tryz.results79, go_sem]) rfl ⟨rfl, by go_grown⟩
 ·go_enter Tryz.func79, Tryz.ntmps79
  go_wp2
  go_rounds 4
  exact bodyPost_ret (v := arr3 255 255 85) (by simp [arr3, results, Tryz.results79, go_sem]) rfl ⟨rfl, by go_grown⟩
 ·go_enter Tryz.func79, Tryz.ntmps79
  go_wp2
  go_rounds 4
  exact bodyPost_ret (v := arr3 85 85 255) (by simp [arr3, results, Tryz.results79, go_sem]) rfl ⟨rfl, by go_grown⟩
 ·go_enter Tryz.func79, Tryz.ntmps79
  go_wp2
  go_rounds 4
  exact bodyPost_ret (v := arr3 255 85 255) (by simp [arr3, results, Tryz.results79, go_sem]) rfl ⟨rfl, by go_grown⟩
 ·go_enter Tryz.func79, Tryz.ntmps79
  go_wp2
  go_rounds 4
  exact bodyPost_ret (v := arr3 85 255 255) (by simp [arr3, results, Tryz.results79, go_sem]) rfl ⟨rfl, by go_grown⟩
 ·go_enter Tryz.func79, Tryz.ntmps79
  go_wp2
  go_rounds 4
  exact bodyPost_ret (v := arr3 255 255 255) (by simp [arr3, results, Tryz.results79, go_sem]) rfl ⟨rfl, by go_grown⟩
theorem Zt (n : Int) (h0 : 0 <= n) (h1 : n < 256) : Gives 79 #[.int .i64 n] (arr3 (pr n) (pg n) (pb n)) := by
 by_cases c : n < 16
 ·exact JP n h0 c
 intro w
 by_cases c2 : n < 232
 ·have H : Hid (pr n = lev ((n - 16) / 36) /\ pg n = lev ((n - 16) / 6 % 6) /\ pb n = lev ((n - 16) % 6)) := by
   unfold Hid pr pg pb
   rw [if_neg (by omega), if_neg c, if_pos c2, if_neg (by omega), if_neg c, if_pos c2, if_neg (by omega), if_neg c, if_pos c2]
   exact ⟨rfl, rfl, rfl⟩
  go_enter Tryz.func79, Tryz.ntmps79
  go_wp2_with (go_at_call 95; refine (JN _ (by omega) (by omega) _).mono ?_; rintro e w' ⟨rfl, rfl⟩)
  exact bodyPost_ret (v := arr3 (lev ((n - 16) / 36)) (lev ((n - 16) / 6 % 6)) (lev ((n - 16) % 6))) (by simp [arr3, results, Tryz.results79, go_sem]) rfl ⟨by rw [H.out.1, H.out.2.1, H.out.2.2], by go_grown⟩
 ·have H : Hid (pr n = 8 + 10 * (n - 232) /\ pg n = 8 + 10 * (n - 232) /\ pb n = 8 + 10 * (n - 232)) := by
   unfold Hid pr pg pb
   rw [if_neg (by omega), if_neg c, if_neg c2, if_neg (by omega), if_neg c, if_neg c2, if_neg (by omega), if_neg c, if_neg c2]
   exact ⟨rfl, rfl, rfl⟩
  go_enter Tryz.func79, Tryz.ntmps79
  go_wp2
  exact bodyPost_ret (v := arr3 (8 + 10 * (n - 232)) (8 + 10 * (n - 232)) (8 + 10 * (n - 232))) (by simp [arr3, results, Tryz.results79, go_sem]) rfl ⟨by rw [H.out.1, H.out.2.1, H.out.2.2], by go_grown⟩
end
section
open Go.RowKit
abbrev B8 := BitVec 8
abbrev bI (a : B8) : Int := (a.toNat : Int)
theorem bI_lt (a : B8) : 0 <= bI a /\ bI a < 256 := ⟨Int.natCast_nonneg _, by have := a.isLt; show (a.toNat : Int) < 256; omega⟩
theorem jV {a b : B8} (h : bI a = bI b) : a = b := BitVec.eq_of_toNat_eq (by exact_mod_cast h)
theorem bI_of (n : Int) (h0 : 0 <= n) (h1 : n < 256) : ∃ a : B8, bI a = n := ⟨BitVec.ofNat 8 n.toNat, by show ((BitVec.ofNat 8 n.toNat).toNat : Int) = n; rw [BitVec.toNat_ofNat]; omega⟩
@[go_sem] theorem b8_and (a b : B8) : bits .and .u8 (bI a) (bI b) = bI (a &&& b) := by
 rw [u8_and_nat _ _ a.isLt b.isLt, <- BitVec.toNat_and]
@[go_sem] theorem b8_or (a b : B8) : bits .or .u8 (bI a) (bI b) = bI (a ||| b) := by
 rw [u8_or_nat _ _ a.isLt b.isLt, <- BitVec.toNat_or]
@[go_sem] theorem b8_andNot (a b : B8) : bits .andNot .u8 (bI a) (bI b) = bI (a &&& ~~~b) := by
 rw [u8_andNot_nat _ _ a.isLt b.isLt]
 show _ = ((a &&& ~~~b).toNat : Int)
 rw [BitVec.toNat_and, BitVec.toNat_not]
@[go_sem] theorem kW (a : B8) (n : Nat) (h : n < 256) : bits .and .u8 (bI a) (n : Int) = bI (a &&& BitVec.ofNat 8 n) := by
 rw [u8_and_nat _ _ a.isLt h]
 show _ = ((a &&& BitVec.ofNat 8 n).toNat : Int)
 rw [BitVec.toNat_and, BitVec.toNat_ofNat, Nat.mod_eq_of_lt h]
theorem x9 (a : B8) (i : Nat) (h : i < 8) : bits .and .u8 (bI a / 2 ^ i) 1 = if a.getLsbD i = true then 1 else 0 := by
 have e : bI a / 2 ^ i = ((a.toNat / 2 ^ i : Nat) : Int) := by
  show (a.toNat : Int) / 2 ^ i = _
  rw [Int.natCast_ediv]
  congr 1
 have l : a.toNat / 2 ^ i < 256 := Nat.lt_of_le_of_lt (Nat.div_le_self _ _) a.isLt
 rw [e, show (1 : Int) = ((1 : Nat) : Int) from rfl, u8_and_nat _ _ l (by decide), Nat.and_one_is_mod]
 have t : a.getLsbD i = decide (a.toNat / 2 ^ i % 2 = 1) := by
  show a.toNat.testBit i = _
  rw [Nat.testBit_eq_decide_div_mod_eq]
 rw [t]
 by_cases c : a.toNat / 2 ^ i % 2 = 1
 ·rw [c]; simp
 ·have : a.toNat / 2 ^ i % 2 = 0 := by omega
  rw [this]; simp
end
section
open Go.RowKit
structure Sty where
 fg : Int
 bg : Int
 at_ : B8
 deriving DecidableEq
structure Pat where
 fg : Int
 bg : Int
 add : B8
 drop : B8
 deriving DecidableEq
def plC (c : Int) : Int := if c = 1 then 0 else cnt c
def zf (s : Sty) : Sty := ⟨plC s.fg, plC s.bg, s.at_⟩
def layC (c p : Int) : Int := if p = 0 then c else if p = 1 then 0 else p
def jK (s : Sty) (p : Pat) : Sty := ⟨layC s.fg (cnt p.fg), layC s.bg (cnt p.bg), (s.at_ &&& ~~~p.drop) ||| p.add⟩
def jW (s : Sty) (l : List Pat) : Sty := l.foldl jK (zf s)
def colL (c base : Int) : List Int :=
 if c = 0 then [base + 9]
 else if 16777216 <= c then [base + 8, 2, (c - 16777216) / 65536, (c - 16777216) / 256 % 256, (c - 16777216) % 256]
 else if 272 <= c then [base + 8, 5, c - 256]
 else if 264 <= c then [base + 60 + (c - 264)]
 else [base + (c - 256)]
def onN (i : Nat) : Int := [1, 2, 3, 4, 5, 7, 8, 9].getD i 0
def offN (i : Nat) : Int := [22, 22, 23, 24, 25, 27, 28, 29].getD i 0
def setL (b : B8) : List Int := ((List.range 8).filter fun i => b.getLsbD i).map onN
def jw (b : B8) : List Int := ((List.range 8).filter fun i => decide (2 <= i) && b.getLsbD i).map offN
def qy (a b : B8) : Bool := (a &&& ~~~b) &&& 3 != 0
def oneL (a b : Sty) : List Int :=
 (if qy a.at_ b.at_ then [22] else []) ++ jw (a.at_ &&& ~~~b.at_) ++ setL ((b.at_ &&& ~~~a.at_) ||| (if qy a.at_ b.at_ then b.at_ &&& 3 else 0))
 ++ (if a.fg = b.fg then [] else colL b.fg 30) ++ (if a.bg = b.bg then [] else colL b.bg 40)
def twoL (b : Sty) : List Int := [0] ++ setL b.at_ ++ (if b.fg = 0 then [] else colL b.fg 30) ++ (if b.bg = 0 then [] else colL b.bg 40)
def digN (n : Int) : Int := if n < 10 then 1 else if n < 100 then 2 else 3
def zZ (l : List Int) : Int := (l.map digN).sum + ((l.length : Int) - 1)
def zR (f t : Sty) : List Int :=
 if zf f = zf t then [] else if zZ (twoL (zf t)) < zZ (oneL (zf f) (zf t)) then twoL (zf t) else oneL (zf f) (zf t)
end
section
open Go.RowKit
theorem cnt_cnt (c : Int) : cnt (cnt c) = cnt c := by
 unfold cnt
 by_cases r : zE c = true
 ·rw [if_pos r, if_pos r]
 ·rw [if_neg r]; rfl
theorem Zu (c : Int) : plC (cnt c) = layC 0 (cnt c) := by
 unfold plC layC
 by_cases z : cnt c = 0
 ·rw [z]; rfl
 ·rw [if_neg z]
  by_cases e : cnt c = 1
  ·rw [if_pos e, if_pos e]
  ·rw [if_neg e, if_neg e, cnt_cnt]
theorem b8_ext {a b : B8} (h : ∀ i, i < 8 -> a.getLsbD i = b.getLsbD i) : a = b := BitVec.eq_of_getLsbD_eq (fun i hi => h i hi)
end
section
open Go.RowKit
def setM (n : Int) : B8 := if n = 1 then 1 else if n = 2 then 2 else if n = 3 then 4 else if n = 4 then 8 else if n = 5 then 16 else if n = 7 then 32 else if n = 8 then 64 else if n = 9 then 128 else 0
def takeM (n : Int) : B8 := if n = 22 then 3 else if n = 23 then 4 else if n = 24 then 8 else if n = 25 then 16 else if n = 27 then 32 else if n = 28 then 64 else if n = 29 then 128 else 0
def attrN (a : B8) (n : Int) : B8 := (a &&& ~~~(takeM n)) ||| setM n
def qd : Sty := ⟨0, 0, 0⟩
end
section
open Go.RowKit
def qm (c : Int) : Prop := c = 0 \/ (256 <= c /\ c < 512) \/ (16777216 <= c /\ c < 33554432)
theorem qA (c : Int) : qm (plC c) := by
 unfold plC cnt zE qm
 split
 ·exact Or.inl rfl
 ·split
  ·rename_i h1 h2
   rw [decide_eq_true_iff] at h2
   omega
  ·exact Or.inl rfl
def maskT : List Int -> B8
 | [] => 0
 | n :: r => takeM n ||| maskT r
theorem xD : ∀ x : B8, maskT (setL x) = 0 /\ (setL x).foldl attrN 0 = x /\ (setL x).length <= 8 := by decide +kernel
theorem Zv : ∀ x : B8, ∀ n ∈ setL x, 0 < n /\ n < 30 := by decide +kernel
theorem JQ : ∀ x : B8, ∀ n ∈ jw x, 0 < n /\ n < 30 := by decide +kernel
end
section
open Go.RowKit
theorem kX (i : Nat) (hi : i < 8) : (3 : B8).getLsbD i = decide (i < 2) /\ (252 : B8).getLsbD i = decide (2 <= i) := by
 have : i = 0 \/ i = 1 \/ i = 2 \/ i = 3 \/ i = 4 \/ i = 5 \/ i = 6 \/ i = 7 := by omega
 rcases this with rfl | rfl | rfl | rfl | rfl | rfl | rfl | rfl <;> decide
def preL (a b : B8) : List Int := (if qy a b then [22] else []) ++ jw (a &&& ~~~b) ++ setL ((b &&& ~~~a) ||| (if qy a b then b &&& 3 else 0))
theorem JR (a b : B8) : ∀ n ∈ preL a b, 0 < n /\ n < 30 := by
 intro n hn
 unfold preL at hn
 rw [List.mem_append, List.mem_append] at hn
 rcases hn with (h | h) | h
 ·split at h
  ·rw [List.mem_singleton] at h; subst h; decide
  ·cases h
 ·exact JQ _ n h
 ·exact Zv _ n h
theorem Zw (c : Int) (h : qm c) : plC c = c := by
 unfold plC cnt zE
 rcases h with rfl | h | h
 ·rfl
 ·rw [if_neg (by omega), if_pos (by rw [decide_eq_true_iff]; omega)]
 ·rw [if_neg (by omega), if_pos (by rw [decide_eq_true_iff]; omega)]
theorem qG (c b : Int) : (colL c b).length <= 5 := by
 unfold colL
 split
 ·simp
 ·split
  ·simp
  ·split
   ·simp
   ·split <;> simp
end
section
open Go.RowKit
def oc (p : Nat -> Bool) : Nat := ((List.range 8).filter p).length
def on1 (b : Bool) : Nat := if b = true then 1 else 0
theorem oc_eq (p : Nat -> Bool) : oc p = on1 (p 0) + on1 (p 1) + on1 (p 2) + on1 (p 3) + on1 (p 4) + on1 (p 5) + on1 (p 6) + on1 (p 7) := by
 unfold oc on1
 rw [<- List.countP_eq_length_filter, show List.range 8 = [0, 1, 2, 3, 4, 5, 6, 7] from rfl]
 simp only [List.countP_cons, List.countP_nil]
 omega
theorem ke (b : Bool) : on1 b <= 1 := by cases b <;> decide
theorem on1_two (a b : Bool) (h : (a && b) = false) : on1 a + on1 b <= 1 := by cases a <;> cases b <;> simp_all [on1]
theorem set_oc (b : B8) : (setL b).length = oc fun i => b.getLsbD i := by unfold setL oc; rw [List.length_map]
theorem take_oc (b : B8) : (jw b).length = oc fun i => decide (2 <= i) && b.getLsbD i := by unfold jw oc; rw [List.length_map]
theorem JS (a b : B8) (h : qy a b = true) : b.getLsbD 0 = false \/ b.getLsbD 1 = false := by
 by_cases c : b.getLsbD 0 = true /\ b.getLsbD 1 = true
 ·exfalso
  have z : (a &&& ~~~b) &&& 3 = 0 := by
   apply b8_ext
   intro i hi
   have z0 : (0 : B8).getLsbD i = false := by simp
   simp only [BitVec.getLsbD_and, BitVec.getLsbD_not, (kX i hi).1, z0, hi, decide_true, Bool.true_and]
   by_cases i0 : i = 0
   ·subst i0; rw [c.1]; simp
   ·by_cases i1 : i = 1
    ·subst i1; rw [c.2]; simp
    ·have : ¬ i < 2 := by omega
     simp [this]
  unfold qy at h
  rw [z] at h
  simp at h
 ·cases h0 : b.getLsbD 0
  ·exact Or.inl rfl
  ·cases h1 : b.getLsbD 1
   ·exact Or.inr rfl
   ·exact absurd ⟨h0, h1⟩ c
theorem Zx (a b : B8) : (preL a b).length <= 8 := by
 unfold preL
 rw [List.length_append, List.length_append, set_oc, take_oc, oc_eq, oc_eq]
 have hi : ∀ i, i < 8 -> 2 <= i -> on1 (decide (2 <= i) && (a &&& ~~~b).getLsbD i) + on1 (((b &&& ~~~a) ||| (if qy a b = true then b &&& 3 else 0)).getLsbD i) <= 1 := by
  intro i h8 h2
  apply on1_two
  have n2 : ¬ i < 2 := by omega
  have l : (if qy a b = true then b &&& 3 else 0 : B8).getLsbD i = false := by
   split
   ·rw [BitVec.getLsbD_and, (kX i h8).1]; simp [n2]
   ·simp
  rw [BitVec.getLsbD_or, l, BitVec.getLsbD_and, BitVec.getLsbD_and, BitVec.getLsbD_not, BitVec.getLsbD_not]
  simp only [h8, decide_true, Bool.true_and, Bool.or_false]
  cases a.getLsbD i <;> cases b.getLsbD i <;> simp
 have t0 : on1 (decide (2 <= 0) && (a &&& ~~~b).getLsbD 0) = 0 := rfl
 have t1 : on1 (decide (2 <= 1) && (a &&& ~~~b).getLsbD 1) = 0 := rfl
 have h2 := hi 2 (by omega) (by omega)
 have h3 := hi 3 (by omega) (by omega)
 have h4 := hi 4 (by omega) (by omega)
 have h5 := hi 5 (by omega) (by omega)
 have h6 := hi 6 (by omega) (by omega)
 have h7 := hi 7 (by omega) (by omega)
 cases hl : qy a b
 ·simp only [hl, Bool.false_eq_true, if_false] at h2 h3 h4 h5 h6 h7 ⊢
  have s0 := ke (((b &&& ~~~a) ||| (0 : B8)).getLsbD 0)
  have s1 := ke (((b &&& ~~~a) ||| (0 : B8)).getLsbD 1)
  simp only [List.length_nil]
  omega
 ·simp only [hl, if_true] at h2 h3 h4 h5 h6 h7 ⊢
  have s0 := ke (((b &&& ~~~a) ||| (b &&& 3)).getLsbD 0)
  have s1 := ke (((b &&& ~~~a) ||| (b &&& 3)).getLsbD 1)
  have z : on1 (((b &&& ~~~a) ||| (b &&& 3)).getLsbD 0) + on1 (((b &&& ~~~a) ||| (b &&& 3)).getLsbD 1) <= 1 := by
   rcases JS a b hl with c | c
   ·have : ((b &&& ~~~a) ||| (b &&& 3)).getLsbD 0 = false := by rw [BitVec.getLsbD_or, BitVec.getLsbD_and, BitVec.getLsbD_and, c]; rfl
    rw [this, show on1 false = 0 from rfl]; omega
   ·have : ((b &&& ~~~a) ||| (b &&& 3)).getLsbD 1 = false := by rw [BitVec.getLsbD_or, BitVec.getLsbD_and, BitVec.getLsbD_and, c]; rfl
    rw [this, show on1 false = 0 from rfl]; omega
  simp only [List.length_cons, List.length_nil]
  omega
theorem set_full : ∀ b : B8, (setL b).length = 8 -> b = 255 := by decide +kernel
theorem set_digs : ∀ b : B8, ((setL b).map digN).sum = ((setL b).length : Int) := by decide +kernel
theorem pre_full : ∀ a : B8, (preL a 255).length <= 8 /\ ((preL a 255).map digN).sum <= 8 := by decide +kernel
theorem kY (n : Int) : 1 <= digN n := by unfold digN; split; decide; split <;> decide
theorem kZ (l : List Int) : 0 <= (l.map digN).sum := by
 induction l with
 | nil => exact Int.le_refl _
 | cons n r ih => rw [List.map_cons, List.sum_cons]; have := kY n; omega
theorem two_len (b : Sty) (h : 18 < (twoL b).length) : b.at_ = 255 /\ (if b.fg = 0 then [] else colL b.fg 30).length = 5 /\ (if b.bg = 0 then [] else colL b.bg 40).length = 5 := by
 have c1 : (if b.fg = 0 then [] else colL b.fg 30).length <= 5 := by split; simp; exact qG _ _
 have c2 : (if b.bg = 0 then [] else colL b.bg 40).length <= 5 := by split; simp; exact qG _ _
 have s := (xD b.at_).2.2
 unfold twoL at h
 rw [List.length_append, List.length_append, List.length_append, List.length_singleton] at h
 exact ⟨set_full _ (by omega), by omega, by omega⟩
theorem vc (f t : Sty) : (zR f t).length <= 18 := by
 unfold zR
 generalize zf f = a
 generalize zf t = b
 have one : ∀ a b : Sty, (oneL a b).length <= 18 := by
  intro a b
  have e : oneL a b = preL a.at_ b.at_ ++ (if a.fg = b.fg then [] else colL b.fg 30) ++ (if a.bg = b.bg then [] else colL b.bg 40) := by unfold oneL preL; simp [List.append_assoc]
  have c1 : (if a.fg = b.fg then [] else colL b.fg 30).length <= 5 := by split; simp; exact qG _ _
  have c2 : (if a.bg = b.bg then [] else colL b.bg 40).length <= 5 := by split; simp; exact qG _ _
  have := Zx a.at_ b.at_
  rw [e, List.length_append, List.length_append]
  omega
 split
 ·simp
 ·split
  ·rename_i hlt
   rcases Nat.lt_or_ge 18 (twoL b).length with h | h
   ·exfalso
    obtain ⟨h1, h2, h3⟩ := two_len b h
    obtain ⟨p1, p2⟩ := pre_full a.at_
    have e1 : oneL a b = preL a.at_ b.at_ ++ (if a.fg = b.fg then [] else colL b.fg 30) ++ (if a.bg = b.bg then [] else colL b.bg 40) := by unfold oneL preL; simp [List.append_assoc]
    have f1 : b.fg ≠ 0 := fun e => by rw [if_pos e] at h2; simp at h2
    have f2 : b.bg ≠ 0 := fun e => by rw [if_pos e] at h3; simp at h3
    rw [if_neg f1] at h2
    rw [if_neg f2] at h3
    have e2 : twoL b = [0] ++ setL b.at_ ++ colL b.fg 30 ++ colL b.bg 40 := by unfold twoL; rw [if_neg f1, if_neg f2]
    have d := set_digs b.at_
    have s8 : (setL b.at_).length = 8 := by rw [h1]; decide
    have dF := kZ (colL b.fg 30)
    have dB := kZ (colL b.bg 40)
    have cF : ((if a.fg = b.fg then [] else colL b.fg 30).map digN).sum <= ((colL b.fg 30).map digN).sum /\ (if a.fg = b.fg then [] else colL b.fg 30).length <= 5 := by
     split
     ·exact ⟨by simpa using dF, by simp⟩
     ·exact ⟨Int.le_refl _, by omega⟩
    have cB : ((if a.bg = b.bg then [] else colL b.bg 40).map digN).sum <= ((colL b.bg 40).map digN).sum /\ (if a.bg = b.bg then [] else colL b.bg 40).length <= 5 := by
     split
     ·exact ⟨by simpa using dB, by simp⟩
     ·exact ⟨Int.le_refl _, by omega⟩
    rw [h1] at e1
    unfold zZ at hlt
    rw [e1, e2] at hlt
    simp only [List.map_append, List.sum_append, List.length_append, List.map_cons, List.map_nil, List.sum_cons, List.sum_nil, List.length_cons, List.length_nil] at hlt
    rw [d, s8, show digN 0 = 1 from rfl] at hlt
    omega
   ·exact h
  ·exact one a b
end
section
open Go.RowKit
theorem kf (c b : Int) (hc : qm c) (h0 : 0 <= b) (h1 : b <= 100) : ∀ x ∈ colL c b, 0 <= x /\ x < 1000 := by
 intro x hx
 unfold colL at hx
 rcases hc with rfl | ⟨c0, c1⟩ | ⟨c0, c1⟩
 ·rw [if_pos rfl] at hx
  simp at hx
  omega
 ·rw [if_neg (by omega), if_neg (by omega)] at hx
  split at hx
  ·simp at hx; omega
  ·split at hx
   ·simp at hx; omega
   ·simp at hx; omega
 ·rw [if_neg (by omega), if_pos c0] at hx
  simp at hx
  omega
theorem vd (a b : Sty) (h1 : qm b.fg) (h2 : qm b.bg) : ∀ x ∈ oneL a b, 0 <= x /\ x < 1000 := by
 intro x hx
 have e : oneL a b = preL a.at_ b.at_ ++ (if a.fg = b.fg then [] else colL b.fg 30) ++ (if a.bg = b.bg then [] else colL b.bg 40) := by unfold oneL preL; simp [List.append_assoc]
 rw [e, List.mem_append, List.mem_append] at hx
 rcases hx with (h | h) | h
 ·have := JR _ _ x h; omega
 ·split at h
  ·cases h
  ·exact kf _ _ h1 (by decide) (by decide) x h
 ·split at h
  ·cases h
  ·exact kf _ _ h2 (by decide) (by decide) x h
theorem ve (b : Sty) (h1 : qm b.fg) (h2 : qm b.bg) : ∀ x ∈ twoL b, 0 <= x /\ x < 1000 := by
 intro x hx
 unfold twoL at hx
 rw [List.mem_append, List.mem_append, List.mem_append] at hx
 rcases hx with ((h | h) | h) | h
 ·simp at h; omega
 ·have := Zv _ x h; omega
 ·split at h
  ·cases h
  ·exact kf _ _ h1 (by decide) (by decide) x h
 ·split at h
  ·cases h
  ·exact kf _ _ h2 (by decide) (by decide) x h
end
section
open Go.RowKit
end
section
open Go.RowKit
def qI (l : List Int) : Int := if l = [] then 0 else zZ l
def qX (l : List Int) (k : Nat) : Int := sumD' (l.take k) + (if k = 0 then 0 else (k : Int) - 1)
where sumD' (l : List Int) : Int := (l.map digN).sum
theorem JT (l : List Int) (k : Nat) (h : k < l.length) : qX l (k + 1) = qX l k + digN l[k] + (if k = 0 then 0 else 1) := by
 unfold qX qX.sumD'
 rw [List.take_succ_eq_append_getElem h, List.map_append, List.sum_append]
 simp only [List.map_cons, List.map_nil, List.sum_cons, List.sum_nil]
 rw [if_neg (by omega)]
 split <;> omega
theorem JU (l : List Int) : qX l l.length = qI l := by
 unfold qX qI qX.sumD' zZ
 rw [List.take_length]
 by_cases h : l = []
 ·subst h; rfl
 ·rw [if_neg h, if_neg (by rw [List.length_eq_zero_iff]; exact h)]
theorem JV (l : List Int) (k : Nat) (h : k <= l.length) : 0 <= qX l k /\ qX l k <= 4 * (k : Int) := by
 unfold qX qX.sumD'
 have b : ∀ m : List Int, 0 <= (m.map digN).sum /\ (m.map digN).sum <= 3 * m.length := by
  intro m
  induction m with
  | nil => simp
  | cons x r ih =>
   rw [List.map_cons, List.sum_cons, List.length_cons]
   have := kY x
   have : digN x <= 3 := by unfold digN; split; decide; split <;> decide
   omega
 have := b (l.take k)
 rw [List.length_take, Nat.min_eq_left h] at this
 split <;> omega
theorem JW (f t : Sty) : zR f t = if zf f = zf t then [] else if qI (twoL (zf t)) < qI (oneL (zf f) (zf t)) then twoL (zf t) else oneL (zf f) (zf t) := by
 unfold zR
 split
 ·rfl
 ·have t2 : qI (twoL (zf t)) = zZ (twoL (zf t)) := by unfold qI; rw [if_neg (by unfold twoL; simp)]
  rw [t2]
  by_cases z : oneL (zf f) (zf t) = []
  ·have p : 0 <= zZ (twoL (zf t)) := by
    unfold zZ
    have h := kZ (twoL (zf t))
    have l : 1 <= (twoL (zf t)).length := by unfold twoL; simp
    omega
   rw [z]
   rw [if_neg (by show ¬ zZ (twoL (zf t)) < zZ []; unfold zZ at p ⊢; simp at p ⊢; omega), if_neg (by show ¬ zZ (twoL (zf t)) < qI []; unfold qI; simp; omega)]
  ·unfold qI
   rw [if_neg z]
theorem come_bit (a b : B8) (i : Nat) (hi : i < 8) : ((b &&& ~~~a) ||| (if qy a b = true then b &&& 3 else 0)).getLsbD i = (b.getLsbD i && (!a.getLsbD i || (decide (i < 2) && qy a b))) := by
 have z0 : (0 : B8).getLsbD i = false := by simp
 cases qy a b
 ·simp only [Bool.false_eq_true, if_false, BitVec.getLsbD_or, BitVec.getLsbD_and, BitVec.getLsbD_not, z0, hi, decide_true, Bool.true_and, Bool.and_false, Bool.or_false]
 ·simp only [if_true, BitVec.getLsbD_or, BitVec.getLsbD_and, BitVec.getLsbD_not, (kX i hi).1, hi, decide_true, Bool.true_and, Bool.and_true]
  cases a.getLsbD i <;> cases b.getLsbD i <;> simp
theorem gone_bit (a b : B8) (i : Nat) (hi : i < 8) : (a &&& ~~~b).getLsbD i = (a.getLsbD i && !b.getLsbD i) := by
 simp only [BitVec.getLsbD_and, BitVec.getLsbD_not, hi, decide_true, Bool.true_and]
end
section
open Go.RowKit
structure Cel where
 text : ByteArray
 wide : Int
 st : Sty
deriving DecidableEq
def oneB (s : ByteArray) : Option Int := match zu s with
 | [c] => if c.1 = s then some c.2 else none
 | _ => none
def zT (c : Cel) : Bool := decide (c.wide = 1) && decide (oneB c.text = some 1) && decide (zf c.st = c.st)
def qe (a b : Cel) : Bool := decide (a.wide = 2) && decide (oneB a.text = some 2) && decide (b.wide = 0) && decide (b.text = ⟨#[]⟩) && decide (a.st = b.st) && decide (zf a.st = a.st)
def rowR : List Cel -> Bool
 | [] => true
 | [a] => zT a
 | a :: b :: r => if qe a b = true then rowR r else if zT a = true then rowR (b :: r) else false
def xE (a : Cel) (n : Option Cel) : Option Int -> Nat
 | none => 0
 | some w => if w < 1 \/ w ≠ a.wide \/ zf a.st ≠ a.st then 0 else if w = 2 /\ n ≠ some ⟨⟨#[]⟩, 0, a.st⟩ then 0 else w.toNat
def qh : List Cel -> Nat
 | [] => 0
 | a :: r => xE a r.head? (oneB a.text)
theorem xe (a : Cel) (r : List Cel) : qh (a :: r) = xE a r.head? (oneB a.text) := rfl
theorem JY (a : Cel) (n : Option Cel) : xE a n none = 0 := rfl
theorem xF (a : Cel) (n : Option Cel) (w : Int) : xE a n (some w) = if w < 1 \/ w ≠ a.wide \/ zf a.st ≠ a.st then 0 else if w = 2 /\ n ≠ some ⟨⟨#[]⟩, 0, a.st⟩ then 0 else w.toNat := rfl
theorem wideC_le (l : List Int) : qW l = 0 \/ qW l = 1 \/ qW l = 2 := by
 unfold qW
 repeat' (first | (split; done) | split)
 all_goals omega
theorem clF_wide : ∀ f l, ∀ c ∈ clF f l, c.2 = 0 \/ c.2 = 1 \/ c.2 = 2 := by
 intro f
 induction f with
 | zero => intro l c h; cases h
 | succ f ih =>
  intro l c h
  unfold clF at h
  split at h
  ·cases h
  ·rcases List.mem_cons.1 h with rfl | h
   ·exact wideC_le _
   ·exact ih _ c h
theorem vf (s : ByteArray) (w : Int) (h : oneB s = some w) : w = 0 \/ w = 1 \/ w = 2 := by
 unfold oneB at h
 split at h
 ·rename_i c e
  split at h
  ·cases h
   have m : c ∈ zu s := by rw [e]; simp
   unfold zu at m
   obtain ⟨d, hd, rfl⟩ := List.mem_map.1 m
   exact clF_wide _ _ d hd
  ·cases h
 ·cases h
theorem JZ (a b : Cel) (r : List Cel) (h : qe a b = true) : qh (a :: b :: r) = 2 := by
 unfold qe at h
 simp only [Bool.and_eq_true, decide_eq_true_eq] at h
 obtain ⟨⟨⟨⟨⟨h1, h2⟩, h3⟩, h4⟩, h5⟩, h6⟩ := h
 rw [xe, h2, xF]
 rw [if_neg (by rw [h1]; simp [h6]), if_neg ?_]
 ·rfl
 ·rintro ⟨_, q⟩
  apply q
  obtain ⟨bt, bw, bs⟩ := b
  simp only at h3 h4 h5
  rw [h3, h4, h5]
  rfl
theorem Zy (a : Cel) (r : List Cel) (h : zT a = true) : qh (a :: r) = 1 := by
 unfold zT at h
 simp only [Bool.and_eq_true, decide_eq_true_eq] at h
 obtain ⟨⟨h1, h2⟩, h3⟩ := h
 rw [xe, h2, xF]
 rw [if_neg (by rw [h1]; simp [h3]), if_neg (by simp)]
 rfl
theorem Zz (a : Cel) (r : List Cel) (h : zT a = false) (hp : ∀ b r', r = b :: r' -> qe a b = false) : qh (a :: r) = 0 := by
 rw [xe]
 cases e : oneB a.text with
 | none => rfl
 | some w =>
  rw [xF]
  by_cases c : w < 1 \/ w ≠ a.wide \/ zf a.st ≠ a.st
  ·rw [if_pos c]
  ·rw [if_neg c]
   have hw := vf _ _ e
   simp only [not_or, Decidable.not_not] at c
   have w12 : w = 1 \/ w = 2 := by omega
   rcases w12 with rfl | rfl
   ·exfalso
    unfold zT at h
    rw [e, <- c.2.1, c.2.2] at h
    simp at h
   ·refine if_pos ⟨rfl, fun q => ?_⟩
    cases r with
    | nil => cases q
    | cons b r' =>
     have := hp b r' rfl
     simp only [List.head?_cons, Option.some.injEq] at q
     unfold qe at this
     rw [e, <- c.2.1, c.2.2, q] at this
     simp at this
theorem unit_le (l : List Cel) : qh l <= 2 /\ (qh l = 2 -> 2 <= l.length) := by
 cases l with
 | nil => simp [qh]
 | cons a r =>
  rw [xe]
  cases e : oneB a.text with
  | none => simp [JY]
  | some w =>
   have hw := vf _ _ e
   rw [xF]
   split
   ·simp
   ·split
    ·simp
    ·rename_i c
     refine ⟨by omega, fun z => ?_⟩
     have w2 : w = 2 := by omega
     cases r with
     | nil => exact absurd ⟨w2, by simp⟩ c
     | cons b r' => simp
def kg : Nat -> List Cel -> Bool
 | 0, _ => true
 | f + 1, l => if l = [] then true else decide (0 < qh l) && kg f (l.drop (max (qh l) 1))
theorem ZC : ∀ f l, l.length <= f -> kg f l = rowR l := by
 intro f
 induction f with
 | zero =>
  intro l h
  have e : l = [] := List.length_eq_zero_iff.1 (by omega)
  subst e
  rfl
 | succ f ih =>
  intro l h
  unfold kg
  match l with
  | [] => rfl
  | [a] =>
   rw [if_neg (by simp)]
   cases hs : zT a with
   | true => rw [Zy a [] hs]; simp [rowR, hs]; exact ih [] (by simp)
   | false => rw [Zz a [] hs (by intro b r' e; cases e)]; simp [rowR, hs]
  | a :: b :: r =>
   rw [if_neg (by simp)]
   simp only [List.length_cons] at h
   unfold rowR
   cases hp : qe a b with
   | true => rw [JZ a b r hp]; simp; exact ih r (by omega)
   | false =>
    cases hs : zT a with
    | true => rw [Zy a (b :: r) hs]; simp; exact ih (b :: r) (by simp; omega)
    | false => rw [Zz a (b :: r) hs (by intro b' r' e; cases e; exact hp)]; simp
structure Scr where
 w : Int
 h : Int
 cells : List Cel
 x : Int
 y : Int
 shown : Bool
def qJ (w h : Int) : Bool := decide (0 <= w) && decide (w <= 4096) && decide (0 <= h) && decide (h <= 4096) && decide (w * h <= 1048576)
def zG (s : Scr) (y : Nat) : List Cel := (s.cells.drop (y * s.w.toNat)).take s.w.toNat
def qN (s : Scr) : Bool := if s.shown = true then decide (0 <= s.x) && decide (s.x < s.w) && decide (0 <= s.y) && decide (s.y < s.h) else decide (s.x = 0) && decide (s.y = 0)
def zi (s : Scr) : Bool := qJ s.w s.h && decide ((s.cells.length : Int) = s.w * s.h) && ((List.range s.h.toNat).all fun y => rowR (zG s y)) && qN s
end
section
open Go.RowKit
def hasC (c : Int) : Bool := decide ((256 <= c /\ c < 512) \/ (16777216 <= c /\ c < 33554432))
def chR (c : Int) : Int := if 16777216 <= c /\ c < 33554432 then c / 65536 % 256 else if 256 <= c /\ c < 512 then pr (c - 256) else 0
def chG (c : Int) : Int := if 16777216 <= c /\ c < 33554432 then c / 256 % 256 else if 256 <= c /\ c < 512 then pg (c - 256) else 0
def chB (c : Int) : Int := if 16777216 <= c /\ c < 33554432 then c % 256 else if 256 <= c /\ c < 512 then pb (c - 256) else 0
theorem ZE (c : Int) : Gives 63 #[.int .i32 c] (.tuple #[arr3 (chR c) (chG c) (chB c), .bool (hasC c)]) := by
 intro w
 by_cases h : 16777216 <= c /\ c < 33554432
 ·have hc : cnt c = c := by unfold cnt; rw [if_pos]; unfold zE; rw [decide_eq_true_iff]; omega
  have H : Hid (hasC c = true /\ chR c = c / 65536 % 256 /\ chG c = c / 256 % 256 /\ chB c = c % 256) := by
   unfold Hid hasC chR chG chB
   rw [if_pos h, if_pos h, if_pos h, decide_eq_true_iff]
   exact ⟨Or.inr h, rfl, rfl, rfl⟩
  obtain ⟨ha, hb⟩ := h
  go_enter Tryz.func63, Tryz.ntmps63
  go_wp2_with (go_at_call 62; refine (jU _ _).mono ?_; rintro e w' ⟨rfl, rfl⟩; rw [hc])
  refine bodyPost_ret (v := .tuple #[arr3 (c / 65536 % 256) (c / 256 % 256) (c % 256), .bool true]) (by simp [arr3, results, Tryz.results63, go_sem]) rfl ⟨by rw [H.out.1, H.out.2.1, H.out.2.2.1, H.out.2.2.2], by go_grown⟩
 by_cases h2 : 256 <= c /\ c < 512
 ·have hc : cnt c = c := by unfold cnt; rw [if_pos]; unfold zE; rw [decide_eq_true_iff]; omega
  have H : Hid (hasC c = true /\ chR c = pr (c - 256) /\ chG c = pg (c - 256) /\ chB c = pb (c - 256)) := by
   unfold Hid hasC chR chG chB
   rw [if_neg h, if_neg h, if_neg h, if_pos h2, if_pos h2, if_pos h2, decide_eq_true_iff]
   exact ⟨Or.inl h2, rfl, rfl, rfl⟩
  obtain ⟨ha, hb⟩ := h2
  clear h
  go_enter Tryz.func63, Tryz.ntmps63
  go_wp2_with (first | (go_at_call 62; refine (jU _ _).mono ?_; rintro e w' ⟨rfl, rfl⟩; rw [hc]) | (go_at_call 79; refine (Zt _ (by omega) (by omega) _).mono ?_; rintro e w1 ⟨rfl, hb1⟩; obtain ⟨hcl, hfz, hz⟩ := qQ hb1; simp only [World.size_alloc] at hcl hfz hz))
  have hb2 : Below w.heap.size w w1 := zl ((Below.refl _ _).alloc Vf _) (by simp) hb1
  exact bodyPost_ret (v := .tuple #[arr3 (pr (c - 256)) (pg (c - 256)) (pb (c - 256)), .bool true]) (by simp [arr3, results, Tryz.results63, go_sem, hcl]) rfl ⟨by rw [H.out.1, H.out.2.1, H.out.2.2.1, H.out.2.2.2], by go_grown⟩
 ·have hc : cnt c = 0 \/ cnt c = 1 := by
   unfold cnt
   by_cases r : zE c = true
   ·rw [if_pos r]; unfold zE at r; rw [decide_eq_true_iff] at r; omega
   ·rw [if_neg r]; exact Or.inl rfl
  have H : Hid (hasC c = false /\ chR c = 0 /\ chG c = 0 /\ chB c = 0) := by
   unfold Hid hasC chR chG chB
   rw [if_neg h, if_neg h, if_neg h, if_neg h2, if_neg h2, if_neg h2, decide_eq_false_iff_not]
   exact ⟨by rintro (x | x) <;> contradiction, rfl, rfl, rfl⟩
  clear h h2
  rcases hc with hc | hc
  all_goals
   go_enter Tryz.func63, Tryz.ntmps63
   go_wp2_with (go_at_call 62; refine (jU _ _).mono ?_; rintro e w' ⟨rfl, rfl⟩; rw [hc])
   refine bodyPost_ret (v := .tuple #[arr3 0 0 0, .bool false]) (by simp [arr3, results, Tryz.results63, go_sem]) rfl ⟨by rw [H.out.1, H.out.2.1, H.out.2.2.1, H.out.2.2.2], by go_grown⟩
end
section
open Go.RowKit
def qH (c : Int) : Int := if c = 1 then 1 else if 256 <= c /\ c < 512 then 2 else if 16777216 <= c /\ c < 33554432 then 3 else 0
def jX (c : Int) : Int := if 256 <= c /\ c < 512 then c - 256 else if 16777216 <= c /\ c < 33554432 then c - 16777216 else 0
theorem jY (c : Int) : (c = 1 /\ qH c = 1 /\ jX c = 0) \/ (256 <= c /\ c < 512 /\ qH c = 2 /\ jX c = c - 256) \/ (16777216 <= c /\ c < 33554432 /\ qH c = 3 /\ jX c = c - 16777216) \/ (c ≠ 1 /\ ¬ (256 <= c /\ c < 512) /\ ¬ (16777216 <= c /\ c < 33554432) /\ qH c = 0 /\ jX c = 0) := by
 unfold qH jX
 by_cases h1 : c = 1
 ·left; subst h1; exact ⟨rfl, by simp, by simp⟩
 by_cases h2 : 256 <= c /\ c < 512
 ·right; left; exact ⟨h2.1, h2.2, by rw [if_neg h1, if_pos h2], by rw [if_pos h2]⟩
 by_cases h3 : 16777216 <= c /\ c < 33554432
 ·right; right; left; exact ⟨h3.1, h3.2, by rw [if_neg h1, if_neg h2, if_pos h3], by rw [if_neg h2, if_pos h3]⟩
 ·right; right; right; exact ⟨h1, h2, h3, by rw [if_neg h1, if_neg h2, if_neg h3], by rw [if_neg h2, if_neg h3]⟩
theorem qO (c : Int) (hl : -2147483648 <= c) (hh : c <= 2147483647) : Tells 90 #[.int .i32 c] (.tuple #[.int .i64 (qH c), .int .i64 (jX c)]) := by
 intro w
 rcases jY c with ⟨h, hk, hn⟩ | ⟨h, h', hk, hn⟩ | ⟨h, h', hk, hn⟩ | ⟨h, h2, h3, hk, hn⟩
 ·have H := Vd (And.intro hk hn); clear hk hn
  subst h
  go_enter Tryz.func90, Tryz.ntmps90
  go_wp2
  go_ret2
  exact ⟨by rw [H.out.1, H.out.2]; rfl, rfl⟩
 ·have H := Vd (And.intro hk hn); clear hk hn
  have g1 : (c == 1) = false := by simp; omega
  have g2 : decide (c <= 511) = true := by simp; omega
  go_enter Tryz.func90, Tryz.ntmps90
  go_wp2
  go_ret2
  exact ⟨by rw [H.out.1, H.out.2]; rfl, rfl⟩
 ·have H := Vd (And.intro hk hn); clear hk hn
  have g1 : (c == 1) = false := by simp; omega
  have g2 : decide (c <= 511) = false := by simp; omega
  have g3 : decide (c <= 33554431) = true := by simp; omega
  go_enter Tryz.func90, Tryz.ntmps90
  go_wp2
  go_ret2
  exact ⟨by rw [H.out.1, H.out.2]; rfl, rfl⟩
 ·have H := Vd (And.intro hk hn); clear hk hn
  have g1 : (c == 1) = false := by simp; omega
  by_cases a : 256 <= c
  ·have g2 : decide (c <= 511) = false := by simp; omega
   by_cases b : 16777216 <= c
   ·have g3 : decide (c <= 33554431) = false := by simp; omega
    clear h2 h3
    go_enter Tryz.func90, Tryz.ntmps90
    go_wp2
    go_ret2
    exact ⟨by rw [H.out.1, H.out.2]; rfl, rfl⟩
   ·clear h2 h3
    go_enter Tryz.func90, Tryz.ntmps90
    go_wp2
    go_ret2
    exact ⟨by rw [H.out.1, H.out.2]; rfl, rfl⟩
  ·clear h2 h3
   go_enter Tryz.func90, Tryz.ntmps90
   go_wp2
   go_ret2
   exact ⟨by rw [H.out.1, H.out.2]; rfl, rfl⟩
theorem kh (c : Int) (hl : -2147483648 <= c) (hh : c <= 2147483647) : Tells 91 #[.int .i32 c] (.int .i32 (cnt c)) := by
 intro w
 have hc : cnt c = if qH c = 0 then 0 else c := by
  unfold cnt zE
  rcases jY c with ⟨h, hk, hn⟩ | ⟨h, h', hk, hn⟩ | ⟨h, h', hk, hn⟩ | ⟨h, h2, h3, hk, hn⟩
  ·rw [if_pos (by rw [decide_eq_true_iff]; omega), if_neg (by omega)]
  ·rw [if_pos (by rw [decide_eq_true_iff]; omega), if_neg (by omega)]
  ·rw [if_pos (by rw [decide_eq_true_iff]; omega), if_neg (by omega)]
  ·rw [if_pos hk]
   by_cases z : c = 0
   ·rw [if_pos (by rw [decide_eq_true_iff]; omega), z]
   ·rw [if_neg (by rw [decide_eq_true_iff]; omega)]
 have H := Vd hc; clear hc
 by_cases k : qH c = 0
 all_goals
  have H2 := Vd k
  first | (have g : (qH c == 0) = true := by simp [k]) | (have g : (qH c == 0) = false := by simp [k])
  clear k
  go_enter Tryz.func91, Tryz.ntmps91
  go_wp2_with (go_at_call 90; refine (qO _ hl hh _).mono ?_; rintro e w' ⟨rfl, rfl⟩)
  go_ret
  exact ⟨zC (by rw [H.out]; first | rw [if_pos H2.out] | rw [if_neg H2.out]), rfl⟩
theorem ZF (n f lo hi : Int) (h0 : 0 <= n) (h1 : n < 16) (hf : 1 <= f) : Tells 130 #[.int .i64 n, .int .i64 f, .int .i64 lo, .int .i64 hi] (.int .i64 (zY (n / f % 2) lo hi)) := by
 intro w
 by_cases k : n / f % 2 = 1
 all_goals
  have H2 := Vd k
  first | (have g : (n / f % 2 == 1) = true := by simp [k]) | (have g : (n / f % 2 == 1) = false := by simp [k])
  have h2 : 0 <= n / f := Int.ediv_nonneg h0 (by omega)
  have h3 : n / f <= n := Int.ediv_le_self _ h0
  clear k
  go_enter Tryz.func130, Tryz.ntmps130
  go_wp2
  go_ret
  exact ⟨zC (by unfold zY; first | rw [if_pos H2.out] | rw [if_neg H2.out]), rfl⟩
theorem cube_six (n : Int) (h0 : 0 <= n) (h1 : n <= 5) : n = 0 \/ n = 1 \/ n = 2 \/ n = 3 \/ n = 4 \/ n = 5 := by omega
set_option maxHeartbeats 1000000 in
theorem vg (n : Int) (h0 : 0 <= n) (h1 : n <= 5) : Gives 131 #[.int .i64 n] (.int .i64 (lev n)) := by
 intro w
 have := cube_six n h0 h1
 clear h0 h1
 rcases this with rfl | rfl | rfl | rfl | rfl | rfl
 all_goals
  go_enter Tryz.func131, Tryz.ntmps131
  go_wp2
  go_ret
  exact ⟨rfl, by go_grown⟩
abbrev tri (a b c : Int) : Value := .agg #[.int .i64 a, .int .i64 b, .int .i64 c]
set_option maxHeartbeats 1000000 in
theorem ZG (n : Int) (h0 : 0 <= n) (h1 : n < 256) : Gives 109 #[.int .i64 n] (tri (pr n) (pg n) (pb n)) := by
 intro w
 by_cases c : n < 8
 ·have H : Hid (pr n = zY (n / 1 % 2) 0 170 /\ pg n = zY (n / 2 % 2) 0 170 /\ pb n = zY (n / 4 % 2) 0 170) := by
   unfold Hid pr pg pb
   rw [if_pos c, if_pos c, if_pos c, Int.ediv_one]
   exact ⟨rfl, rfl, rfl⟩
  go_enter Tryz.func109, Tryz.ntmps109
  go_wp2_with (go_at_call 130; refine (ZF _ _ _ _ (by omega) (by omega) (by omega) _).mono ?_; rintro e w' ⟨rfl, rfl⟩)
  exact bodyPost_ret (v := tri (zY (n / 1 % 2) 0 170) (zY (n / 2 % 2) 0 170) (zY (n / 4 % 2) 0 170)) (by simp [results, Tryz.results109, go_sem]) rfl ⟨by rw [H.out.1, H.out.2.1, H.out.2.2], by go_grown⟩
 by_cases c1 : n < 16
 ·have H : Hid (pr n = zY (n / 1 % 2) 85 255 /\ pg n = zY (n / 2 % 2) 85 255 /\ pb n = zY (n / 4 % 2) 85 255) := by
   unfold Hid pr pg pb
   rw [if_neg c, if_neg c, if_neg c, if_pos c1, if_pos c1, if_pos c1, Int.ediv_one]
   exact ⟨rfl, rfl, rfl⟩
  go_enter Tryz.func109, Tryz.ntmps109
  go_wp2_with (go_at_call 130; refine (ZF _ _ _ _ (by omega) (by omega) (by omega) _).mono ?_; rintro e w' ⟨rfl, rfl⟩)
  exact bodyPost_ret (v := tri (zY (n / 1 % 2) 85 255) (zY (n / 2 % 2) 85 255) (zY (n / 4 % 2) 85 255)) (by simp [results, Tryz.results109, go_sem]) rfl ⟨by rw [H.out.1, H.out.2.1, H.out.2.2], by go_grown⟩
 by_cases c2 : n < 232
 ·have H : Hid (pr n = lev ((n - 16) / 36) /\ pg n = lev ((n - 16) / 6 % 6) /\ pb n = lev ((n - 16) % 6)) := by
   unfold Hid pr pg pb
   rw [if_neg (by omega), if_neg c1, if_pos c2, if_neg (by omega), if_neg c1, if_pos c2, if_neg (by omega), if_neg c1, if_pos c2]
   exact ⟨rfl, rfl, rfl⟩
  go_enter Tryz.func109, Tryz.ntmps109
  go_wp2_with fail
  refine (vg _ (by omega) (by omega) _).mono ?_; rintro e w1 ⟨rfl, hb1⟩
  have hb1' : Below w.heap.size w w1 := zl ((Below.refl _ _).alloc Vf _) (by simp) hb1
  obtain ⟨hcl1, hfz1, hz1⟩ := qQ hb1; simp only [World.size_alloc] at hcl1 hfz1 hz1; clear hb1
  go_wp2_with fail
  refine (vg _ (by omega) (by omega) _).mono ?_; rintro e w2 ⟨rfl, hb2⟩
  have hb2' : Below w.heap.size w w2 := zl hb1' (by omega) hb2
  obtain ⟨hcl2, hfz2, hz2⟩ := qQ hb2; clear hb2
  go_wp2_with fail
  refine (vg _ (by omega) (by omega) _).mono ?_; rintro e w3 ⟨rfl, hb3⟩
  have hb3' : Below w.heap.size w w3 := zl hb2' (by omega) hb3
  obtain ⟨hcl3, hfz3, hz3⟩ := qQ hb3; clear hb3
  have z1 : w.heap.size < w1.heap.size := by omega
  have z2 : w.heap.size < w2.heap.size := by omega
  have z3 : w.heap.size < w3.heap.size := by omega
  go_wp2_with fail
  exact bodyPost_ret (v := tri (lev ((n - 16) / 36)) (lev ((n - 16) / 6 % 6)) (lev ((n - 16) % 6))) (by simp [results, Tryz.results109, go_sem, hcl1, hcl2, hcl3, z1, z2]) rfl ⟨by rw [H.out.1, H.out.2.1, H.out.2.2], by go_grown⟩
 ·have H : Hid (pr n = 8 + 10 * (n - 232) /\ pg n = 8 + 10 * (n - 232) /\ pb n = 8 + 10 * (n - 232)) := by
   unfold Hid pr pg pb
   rw [if_neg c, if_neg c1, if_neg c2, if_neg c, if_neg c1, if_neg c2, if_neg c, if_neg c1, if_neg c2]
   exact ⟨rfl, rfl, rfl⟩
  go_enter Tryz.func109, Tryz.ntmps109
  go_wp2
  exact bodyPost_ret (v := tri (8 + 10 * (n - 232)) (8 + 10 * (n - 232)) (8 + 10 * (n - 232))) (by simp [results, Tryz.results109, go_sem]) rfl ⟨by rw [H.out.1, H.out.2.1, H.out.2.2], by go_grown⟩
theorem vh (c : Int) (hl : -2147483648 <= c) (hh : c <= 2147483647) : Gives 92 #[.int .i32 c] (.tuple #[tri (chR c) (chG c) (chB c), .bool (hasC c)]) := by
 intro w
 rcases jY c with ⟨h, hk, hn⟩ | ⟨h, h', hk, hn⟩ | ⟨h, h', hk, hn⟩ | ⟨h, h2, h3, hk, hn⟩
 ·have H : Hid (hasC c = false /\ chR c = 0 /\ chG c = 0 /\ chB c = 0) := by subst h; exact ⟨rfl, rfl, rfl, rfl⟩
  clear h
  go_enter Tryz.func92, Tryz.ntmps92
  go_wp2_with (go_at_call 90; refine (qO _ hl hh _).mono ?_; rw [hk, hn]; rintro e w' ⟨rfl, rfl⟩)
  exact bodyPost_ret (v := .tuple #[tri 0 0 0, .bool false]) (by simp [results, Tryz.results92, go_sem]) rfl ⟨by rw [H.out.1, H.out.2.1, H.out.2.2.1, H.out.2.2.2], by go_grown⟩
 ·have H : Hid (hasC c = true /\ chR c = pr (c - 256) /\ chG c = pg (c - 256) /\ chB c = pb (c - 256)) := by
   unfold Hid hasC chR chG chB
   have n1 : ¬ (16777216 <= c /\ c < 33554432) := by omega
   rw [if_neg n1, if_neg n1, if_neg n1, if_pos ⟨h, h'⟩, if_pos ⟨h, h'⟩, if_pos ⟨h, h'⟩, decide_eq_true_iff]
   exact ⟨Or.inl ⟨h, h'⟩, rfl, rfl, rfl⟩
  go_enter Tryz.func92, Tryz.ntmps92
  go_wp2_with (first | (go_at_call 90; refine (qO _ hl hh _).mono ?_; rw [hk, hn]; rintro e w' ⟨rfl, rfl⟩) | (go_at_call 109; refine (ZG _ (by omega) (by omega) _).mono ?_; rintro e w1 ⟨rfl, hb1⟩; obtain ⟨hcl, hfz, hz⟩ := qQ hb1; simp only [World.size_alloc] at hcl hfz hz))
  have hb2 : Below w.heap.size w w1 := zl ((Below.refl _ _).alloc Vf _) (by simp) hb1
  exact bodyPost_ret (v := .tuple #[tri (pr (c - 256)) (pg (c - 256)) (pb (c - 256)), .bool true]) (by simp [results, Tryz.results92, go_sem, hcl]) rfl ⟨by rw [H.out.1, H.out.2.1, H.out.2.2.1, H.out.2.2.2], by go_grown⟩
 ·have H : Hid (hasC c = true /\ chR c = (c - 16777216) / 65536 /\ chG c = (c - 16777216) / 256 % 256 /\ chB c = (c - 16777216) % 256) := by
   unfold Hid hasC chR chG chB
   rw [if_pos ⟨h, h'⟩, if_pos ⟨h, h'⟩, if_pos ⟨h, h'⟩, decide_eq_true_iff]
   exact ⟨Or.inr ⟨h, h'⟩, by omega, by omega, by omega⟩
  go_enter Tryz.func92, Tryz.ntmps92
  go_wp2_with (go_at_call 90; refine (qO _ hl hh _).mono ?_; rw [hk, hn]; rintro e w' ⟨rfl, rfl⟩)
  exact bodyPost_ret (v := .tuple #[tri ((c - 16777216) / 65536) ((c - 16777216) / 256 % 256) ((c - 16777216) % 256), .bool true]) (by simp [results, Tryz.results92, go_sem]) rfl ⟨by rw [H.out.1, H.out.2.1, H.out.2.2.1, H.out.2.2.2], by go_grown⟩
 ·have H : Hid (hasC c = false /\ chR c = 0 /\ chG c = 0 /\ chB c = 0) := by
   unfold Hid hasC chR chG chB
   rw [if_neg h3, if_neg h3, if_neg h3, if_neg h2, if_neg h2, if_neg h2, decide_eq_false_iff_not]
   exact ⟨by rintro (x | x) <;> contradiction, rfl, rfl, rfl⟩
  clear h h2 h3
  go_enter Tryz.func92, Tryz.ntmps92
  go_wp2_with (go_at_call 90; refine (qO _ hl hh _).mono ?_; rw [hk, hn]; rintro e w' ⟨rfl, rfl⟩)
  exact bodyPost_ret (v := .tuple #[tri 0 0 0, .bool false]) (by simp [results, Tryz.results92, go_sem]) rfl ⟨by rw [H.out.1, H.out.2.1, H.out.2.2.1, H.out.2.2.2], by go_grown⟩
theorem xG (c : Int) : (0 <= chR c /\ chR c <= 255) /\ (0 <= chG c /\ chG c <= 255) /\ (0 <= chB c /\ chB c <= 255) := by
 have lv : ∀ n : Int, 0 <= n -> n <= 5 -> 0 <= lev n /\ lev n <= 255 := by intro n a b; unfold lev; split <;> omega
 have bo : ∀ b lo hi : Int, 0 <= lo -> lo <= 255 -> 0 <= hi -> hi <= 255 -> 0 <= zY b lo hi /\ zY b lo hi <= 255 := by intro b lo hi _ _ _ _; unfold zY; split <;> omega
 unfold chR chG chB
 by_cases h : 16777216 <= c /\ c < 33554432
 ·rw [if_pos h, if_pos h, if_pos h]; omega
 rw [if_neg h, if_neg h, if_neg h]
 by_cases h2 : 256 <= c /\ c < 512
 ·rw [if_pos h2, if_pos h2, if_pos h2]
  obtain ⟨a, b⟩ := h2
  refine ⟨?_, ?_, ?_⟩
  ·unfold pr
   split
   ·exact bo _ _ _ (by decide) (by decide) (by decide) (by decide)
   split
   ·exact bo _ _ _ (by decide) (by decide) (by decide) (by decide)
   split
   ·exact lv _ (by omega) (by omega)
   ·omega
  ·unfold pg
   split
   ·exact bo _ _ _ (by decide) (by decide) (by decide) (by decide)
   split
   ·exact bo _ _ _ (by decide) (by decide) (by decide) (by decide)
   split
   ·exact lv _ (by omega) (by omega)
   ·omega
  ·unfold pb
   split
   ·exact bo _ _ _ (by decide) (by decide) (by decide) (by decide)
   split
   ·exact bo _ _ _ (by decide) (by decide) (by decide) (by decide)
   split
   ·exact lv _ (by omega) (by omega)
   ·omega
 ·rw [if_neg h2, if_neg h2, if_neg h2]; omega
end
section
open Go.RowKit
def dist (a b c x y z : Int) : Int := (a - x) * (a - x) + (b - y) * (b - y) + (c - z) * (c - z)
theorem jx (a x : Int) (h0 : 0 <= a) (h1 : a <= 255) (g0 : 0 <= x) (g1 : x <= 255) : 0 <= (a - x) * (a - x) /\ (a - x) * (a - x) <= 65025 := by
 constructor
 ·rcases Int.le_total 0 (a - x) with h | h
  ·exact Int.mul_nonneg h h
  ·exact Int.mul_nonneg_of_nonpos_of_nonpos h h
 ·rcases Int.le_total 0 (a - x) with h | h
  ·have := Int.mul_le_mul (show a - x <= 255 by omega) (show a - x <= 255 by omega) h (by omega)
   omega
  ·have := Int.mul_le_mul (show -(a - x) <= 255 by omega) (show -(a - x) <= 255 by omega) (by omega) (by omega)
   rw [Int.neg_mul_neg] at this
   omega
theorem J0 (a b c x y z : Int) : dist a b c x y z = dist x y z a b c := by
 unfold dist
 have e : ∀ p q : Int, (p - q) * (p - q) = (q - p) * (q - p) := fun p q => by rw [<- Int.neg_mul_neg, Int.neg_sub]
 rw [e a x, e b y, e c z]
set_option maxHeartbeats 4000000 in
theorem tint_far (a b c x y z : Int) (ha : 0 <= a /\ a <= 255) (hb : 0 <= b /\ b <= 255) (hc : 0 <= c /\ c <= 255) (hx : 0 <= x /\ x <= 255) (hy : 0 <= y /\ y <= 255) (hz : 0 <= z /\ z <= 255) :
  Gives 80 #[arr3 a b c, arr3 x y z] (.int .i64 (dist a b c x y z)) := by
 intro w
 obtain ⟨p0, p1⟩ := jx a x ha.1 ha.2 hx.1 hx.2
 obtain ⟨q0, q1⟩ := jx b y hb.1 hb.2 hy.1 hy.2
 obtain ⟨r0, r1⟩ := jx c z hc.1 hc.2 hz.1 hz.2
 have H : Hid (dist a b c x y z = (a - x) * (a - x) + (b - y) * (b - y) + (c - z) * (c - z)) := rfl
 obtain ⟨ha0, ha1⟩ := ha; obtain ⟨hb0, hb1⟩ := hb; obtain ⟨hc0, hc1⟩ := hc
 obtain ⟨hx0, hx1⟩ := hx; obtain ⟨hy0, hy1⟩ := hy; obtain ⟨hz0, hz1⟩ := hz
 have d1 := Ve (a - x) (by omega)
 have d2 := Ve (b - y) (by omega)
 have d3 := Ve (c - z) (by omega)
 go_enter Tryz.func80, Tryz.ntmps80
 go_wp2_with fail
 refine wp_loop_rounds 4 ?_
 rw [rounds_succ]
 go_wp2_with fail
 go_quiet (fail)
 go_wp2_with fail
 rw [rounds_succ]
 go_wp2_with fail
 go_quiet (fail)
 go_wp2_with fail
 rw [rounds_succ]
 go_wp2_with fail
 go_quiet (fail)
 go_wp2_with fail
 rw [rounds_succ]
 go_wp2_with fail
 go_ret
 exact ⟨zC (by rw [H.out]), below_drewN (by go_grown) _⟩
set_option maxHeartbeats 4000000 in
theorem J1 (a b c x y z : Int) (ha : 0 <= a /\ a <= 255) (hb : 0 <= b /\ b <= 255) (hc : 0 <= c /\ c <= 255) (hx : 0 <= x /\ x <= 255) (hy : 0 <= y /\ y <= 255) (hz : 0 <= z /\ z <= 255) :
  Gives 110 #[tri a b c, tri x y z] (.int .i64 (dist a b c x y z)) := by
 intro w
 obtain ⟨p0, p1⟩ := jx a x ha.1 ha.2 hx.1 hx.2
 obtain ⟨q0, q1⟩ := jx b y hb.1 hb.2 hy.1 hy.2
 obtain ⟨r0, r1⟩ := jx c z hc.1 hc.2 hz.1 hz.2
 have H : Hid (dist a b c x y z = (a - x) * (a - x) + (b - y) * (b - y) + (c - z) * (c - z)) := rfl
 obtain ⟨ha0, ha1⟩ := ha; obtain ⟨hb0, hb1⟩ := hb; obtain ⟨hc0, hc1⟩ := hc
 obtain ⟨hx0, hx1⟩ := hx; obtain ⟨hy0, hy1⟩ := hy; obtain ⟨hz0, hz1⟩ := hz
 go_enter Tryz.func110, Tryz.ntmps110
 go_wp2_with fail
 go_ret
 exact ⟨zC (by rw [H.out]), by go_grown⟩
def bst (D : Int -> Int) (lo : Int) : Nat -> Int
 | 0 => lo
 | k + 1 => if D (lo + (k : Int)) < D (bst D lo k) then lo + (k : Int) else bst D lo k
theorem xH (D : Int -> Int) (lo : Int) (k : Nat) : lo <= bst D lo k /\ bst D lo k <= lo + (k : Int) := by
 induction k with
 | zero => simp [bst]
 | succ k ih =>
  unfold bst
  split <;> omega
end
section
open Go.RowKit
def palD (r g b : Int) (n : Int) : Int := dist r g b (pr n) (pg n) (pb n)
theorem jZ (n : Int) (h0 : 0 <= n) (h1 : n < 256) : (0 <= pr n /\ pr n <= 255) /\ (0 <= pg n /\ pg n <= 255) /\ (0 <= pb n /\ pb n <= 255) := by
 have h := xG (n + 256)
 have e1 : chR (n + 256) = pr n := by unfold chR; rw [if_neg (by omega), if_pos (by omega), show n + 256 - 256 = n by omega]
 have e2 : chG (n + 256) = pg n := by unfold chG; rw [if_neg (by omega), if_pos (by omega), show n + 256 - 256 = n by omega]
 have e3 : chB (n + 256) = pb n := by unfold chB; rw [if_neg (by omega), if_pos (by omega), show n + 256 - 256 = n by omega]
 rw [e1, e2, e3] at h
 exact h
theorem ZH (r g b n : Int) (hr : 0 <= r /\ r <= 255) (hg : 0 <= g /\ g <= 255) (hb : 0 <= b /\ b <= 255) (h0 : 0 <= n) (h1 : n < 256) : 0 <= palD r g b n /\ palD r g b n <= 195075 := by
 obtain ⟨x, y, z⟩ := jZ n h0 h1
 have p := jx r (pr n) hr.1 hr.2 x.1 x.2
 have q := jx g (pg n) hg.1 hg.2 y.1 y.2
 have t := jx b (pb n) hb.1 hb.2 z.1 z.2
 unfold palD dist
 omega
set_option maxHeartbeats 8000000 in
theorem ZI (r g b : Int) (hr : 0 <= r /\ r <= 255) (hg : 0 <= g /\ g <= 255) (hb : 0 <= b /\ b <= 255) (lo : Int) (m : Nat) (l0 : 0 <= lo) (l1 : lo + m <= 256) (hi : Int) (hhi : hi = lo + m) :
  Gives 64 #[arr3 r g b, .int .i64 lo, .int .i64 hi] (.int .i32 (256 + bst (palD r g b) lo m)) := by
 intro w
 have BR := fun k => xH (palD r g b) lo k
 have BRH := Vd BR
 have PB := Vd (fun n h0 h1 => ZH r g b n hr hg hb h0 h1)
 have HI := Vd hhi
 have hi1 : hi <= 256 := by omega
 have lohi : lo <= hi := by omega
 have CP := Vd (fun n h0 h1 => Zt n h0 h1)
 have CF := Vd (fun n h0 h1 => tint_far r g b (pr n) (pg n) (pb n) hr hg hb (jZ n h0 h1).1 (jZ n h0 h1).2.1 (jZ n h0 h1).2.2)
 clear BR hhi
 go_enter Tryz.func64, Tryz.ntmps64
 go_wp2_with fail
 go_loopw [7, 8, 9] (fun best least n wr => ∃ (k : Nat) (B L N : Int), best = .int .i64 B /\ least = .int .i64 L /\ n = .int .i64 N /\ lo <= N /\ N <= hi /\ Hid (k <= m /\ N = lo + (k : Int) /\ B = bst (palD r g b) lo k /\ (k = 0 -> L = 9223372036854775807) /\ (k ≠ 0 -> L = palD r g b B)) /\ Below (w.heap.size + 1) (w.alloc (.cells #[.int .u8 r, .int .u8 g, .int .u8 b] 100)) wr) (fun _ _ n _ => (hi - intOf n).toNat)
 case atStart => exact ⟨0, lo, 9223372036854775807, lo, rfl, rfl, rfl, by omega, by omega, Vd ⟨by omega, by simp, rfl, fun _ => rfl, fun h => absurd rfl h⟩, Below.refl _ _⟩
 case round =>
  obtain ⟨k, B, L, N, rfl, rfl, rfl, n0, n1, hk, hbw⟩ := hrel
  by_cases c : N < hi
  ·have hN : 0 <= N /\ N < 256 := ⟨by omega, by omega⟩
   have cP := Vd (CP.out N hN.1 hN.2)
   have cF := Vd (CF.out N hN.1 hN.2)
   have pbd := PB.out N hN.1 hN.2
   have c0 : wr.cell? ⟨w.heap.size, 0, none⟩ = some (.int .u8 r) := by rw [hbw.cell (p := ⟨w.heap.size, 0, none⟩) (by simp)]; simp
   have c1 : wr.cell? ⟨w.heap.size, 1, none⟩ = some (.int .u8 g) := by rw [hbw.cell (p := ⟨w.heap.size, 1, none⟩) (by simp)]; simp
   have c2 : wr.cell? ⟨w.heap.size, 2, none⟩ = some (.int .u8 b) := by rw [hbw.cell (p := ⟨w.heap.size, 2, none⟩) (by simp)]; simp
   have q0 := fun d os => cell_regrown c0 d os
   have q1 := fun d os => cell_regrown c1 d os
   have q2 := fun d os => cell_regrown c2 d os
   clear c0 c1 c2
   obtain ⟨Dn, hD⟩ : ∃ Dn, Dn = palD r g b N := ⟨_, rfl⟩
   have cF : Hid (Gives 80 #[arr3 r g b, arr3 (pr N) (pg N) (pb N)] (.int .i64 Dn)) := by rw [hD]; exact cF
   rw [<- hD] at pbd
   have HD := Vd hD
   obtain ⟨d0, d1⟩ := pbd
   clear hD
   go_wp2_with fail
   refine wp_region_quiet_below (by kernel_rfl) (by kernel_rfl) ?_
   repeat (quiet_step (first | exact (cP.out _).regrown_of | exact (cF.out _).regrown_of))
   refine wpQuiet_nil ?_
   intro _ hw'
   obtain ⟨⟨dq, osq⟩, hw''⟩ := hw'
   subst hw''
   have hb3 := hbw.trans ((below_regrown wr dq osq).mono (by simpa using hbw.size))
   clear q0 q1 q2
   have bs : bst (palD r g b) lo (k + 1) = if palD r g b (lo + (k : Int)) < palD r g b (bst (palD r g b) lo k) then lo + (k : Int) else bst (palD r g b) lo k := rfl
   by_cases lt : Dn < L
   ·have HN : Hid (k + 1 <= m /\ N + 1 = lo + ((k + 1 : Nat) : Int) /\ N = bst (palD r g b) lo (k + 1) /\ (k + 1 = 0 -> Dn = 9223372036854775807) /\ (k + 1 ≠ 0 -> Dn = palD r g b N)) := by
     obtain ⟨h1, h2, h3, h4, h5⟩ := hk.out
     refine Vd ⟨by have := HI.out; omega, by omega, ?_, fun h => by omega, fun _ => HD.out⟩
     rw [bs, <- h2, <- h3]
     by_cases k0 : k = 0
     ·subst k0
      have : B = N := by rw [h3, h2]; simp [bst]
      rw [this]; simp
     ·rw [<- h5 k0, <- HD.out, if_pos lt]
    clear bs hk
    go_wp2_with fail
    go_roundw
    case rel => exact ⟨k + 1, N, Dn, N + 1, rfl, rfl, rfl, by omega, by omega, HN, hb3⟩
    case measure => simp [intOf]; omega
   ·have HN : Hid (k + 1 <= m /\ N + 1 = lo + ((k + 1 : Nat) : Int) /\ B = bst (palD r g b) lo (k + 1) /\ (k + 1 = 0 -> L = 9223372036854775807) /\ (k + 1 ≠ 0 -> L = palD r g b B)) := by
     obtain ⟨h1, h2, h3, h4, h5⟩ := hk.out
     have k0 : k ≠ 0 := fun h => by have := h4 h; omega
     refine Vd ⟨by have := HI.out; omega, by omega, ?_, fun h => by omega, fun _ => h5 k0⟩
     rw [bs, <- h2, <- h3, <- h5 k0, <- HD.out, if_neg lt]
    clear bs hk
    go_wp2_with fail
    go_roundw
    case rel => exact ⟨k + 1, B, L, N + 1, rfl, rfl, rfl, by omega, by omega, HN, hb3⟩
    case measure => simp [intOf]; omega
  ·have e : B = bst (palD r g b) lo m := by
    obtain ⟨h1, h2, h3, _, _⟩ := hk.out
    have : k = m := by have := HI.out; omega
    rw [h3, this]
   have be := BRH.out m
   rw [<- e] at be
   have be1 : B <= 512 := by have := HI.out; omega
   have be0 : 0 <= B := by omega
   have HE := Vd e
   have hb4 : Below w.heap.size w wr := ((Below.refl _ _).alloc Vf _).trans (hbw.mono (by omega))
   clear hk e be
   go_wp2_with fail
   go_ret
   exact ⟨zC (by rw [HE.out]), hb4⟩
end
section
open Go.RowKit
set_option maxHeartbeats 8000000 in
theorem ZJ (r g b : Int) (hr : 0 <= r /\ r <= 255) (hg : 0 <= g /\ g <= 255) (hb : 0 <= b /\ b <= 255) (lo : Int) (m : Nat) (l0 : 0 <= lo) (l1 : lo + m <= 256) (m1 : 1 <= m) (hi : Int) (hhi : hi = lo + m - 1) :
  Gives 93 #[tri r g b, .int .i64 lo, .int .i64 hi] (.int .i32 (256 + bst (palD r g b) lo m)) := by
 intro w
 have BR := fun k => xH (palD r g b) lo k
 have BRH := Vd BR
 have PB := Vd (fun n h0 h1 => ZH r g b n hr hg hb h0 h1)
 have HI := Vd hhi
 have hi1 : hi <= 255 := by omega
 have lohi : lo <= hi := by omega
 have CP := Vd (fun n h0 h1 => ZG n h0 h1)
 have CF : Hid (∀ n, 0 <= n -> n < 256 -> Gives 110 #[tri (pr n) (pg n) (pb n), tri r g b] (.int .i64 (palD r g b n))) := Vd (fun n h0 h1 => by
  have e : palD r g b n = dist (pr n) (pg n) (pb n) r g b := J0 _ _ _ _ _ _
  rw [e]
  exact J1 (pr n) (pg n) (pb n) r g b (jZ n h0 h1).1 (jZ n h0 h1).2.1 (jZ n h0 h1).2.2 hr hg hb)
 clear BR hhi
 go_enter Tryz.func93, Tryz.ntmps93
 go_wp2_with fail
 go_loopw [7, 8] (fun best n wr => ∃ (k : Nat) (B N : Int), best = .int .i64 B /\ n = .int .i64 N /\ lo <= N /\ N <= hi + 1 /\ lo <= B /\ B <= 255 /\ Hid (k <= m /\ N = lo + (k : Int) /\ B = bst (palD r g b) lo k) /\ Below (w.heap.size + 1) (w.alloc (.cells #[.int .i64 r, .int .i64 g, .int .i64 b] 132)) wr) (fun _ n _ => (hi + 1 - intOf n).toNat)
 case atStart => exact ⟨0, lo, lo, rfl, rfl, by omega, by omega, by omega, by omega, Vd ⟨by omega, by simp, rfl⟩, Below.refl _ _⟩
 case round =>
  obtain ⟨k, B, N, rfl, rfl, n0, n1, b0, b1, hk, hbw⟩ := hrel
  by_cases c : N <= hi
  ·have hN : 0 <= N /\ N < 256 := ⟨by omega, by omega⟩
   have hB : 0 <= B /\ B < 256 := ⟨by omega, by omega⟩
   have cP := Vd (CP.out N hN.1 hN.2)
   have cP2 := Vd (CP.out B hB.1 hB.2)
   have cF := Vd (CF.out N hN.1 hN.2)
   have cF2 := Vd (CF.out B hB.1 hB.2)
   have c0 : wr.cell? ⟨w.heap.size, 0, none⟩ = some (.int .i64 r) := by rw [hbw.cell (p := ⟨w.heap.size, 0, none⟩) (by simp)]; simp
   have c1 : wr.cell? ⟨w.heap.size, 1, none⟩ = some (.int .i64 g) := by rw [hbw.cell (p := ⟨w.heap.size, 1, none⟩) (by simp)]; simp
   have c2 : wr.cell? ⟨w.heap.size, 2, none⟩ = some (.int .i64 b) := by rw [hbw.cell (p := ⟨w.heap.size, 2, none⟩) (by simp)]; simp
   have q0 := fun d os => cell_regrown c0 d os
   have q1 := fun d os => cell_regrown c1 d os
   have q2 := fun d os => cell_regrown c2 d os
   clear c0 c1 c2
   obtain ⟨Dn, hD⟩ : ∃ Dn, Dn = palD r g b N := ⟨_, rfl⟩
   obtain ⟨Db, hE⟩ : ∃ Db, Db = palD r g b B := ⟨_, rfl⟩
   rw [<- hD] at cF
   rw [<- hE] at cF2
   have HD := Vd hD
   have HE := Vd hE
   clear hD hE
   have bs : bst (palD r g b) lo (k + 1) = if palD r g b (lo + (k : Int)) < palD r g b (bst (palD r g b) lo k) then lo + (k : Int) else bst (palD r g b) lo k := rfl
   have HBS := Vd bs
   clear bs
   by_cases lt : Dn < Db
   ·have HN : Hid (k + 1 <= m /\ N + 1 = lo + ((k + 1 : Nat) : Int) /\ N = bst (palD r g b) lo (k + 1)) := by
     obtain ⟨h1, h2, h3⟩ := hk.out
     refine Vd ⟨by have := HI.out; omega, by omega, ?_⟩
     rw [HBS.out, <- h2, <- h3, <- HD.out, <- HE.out, if_pos lt]
    clear hk
    go_wp2_with fail
    refine wp_region_quiet_below (by kernel_rfl) (by kernel_rfl) ?_
    repeat (quiet_step (first | (go_at_call 109; first | (with_reducible exact (cP.out _).regrown_of) | (with_reducible exact (cP2.out _).regrown_of)) | (go_at_call 110; first | (with_reducible exact (cF.out _).regrown_of) | (with_reducible exact (cF2.out _).regrown_of))))
    refine wpQuiet_nil ?_
    intro _ hw'
    obtain ⟨⟨dq, osq⟩, hw''⟩ := hw'
    subst hw''
    have hb3 := hbw.trans ((below_regrown wr dq osq).mono (by simpa using hbw.size))
    clear q0 q1 q2
    go_wp2_with fail
    go_roundw
    case rel => exact ⟨k + 1, N, N + 1, rfl, rfl, by omega, by omega, by omega, by omega, HN, hb3⟩
    case measure => simp [intOf]; omega
   ·have HN : Hid (k + 1 <= m /\ N + 1 = lo + ((k + 1 : Nat) : Int) /\ B = bst (palD r g b) lo (k + 1)) := by
     obtain ⟨h1, h2, h3⟩ := hk.out
     refine Vd ⟨by have := HI.out; omega, by omega, ?_⟩
     rw [HBS.out, <- h2, <- h3, <- HD.out, <- HE.out, if_neg lt]
    clear hk
    go_wp2_with fail
    refine wp_region_quiet_below (by kernel_rfl) (by kernel_rfl) ?_
    repeat (quiet_step (first | (go_at_call 109; first | (with_reducible exact (cP.out _).regrown_of) | (with_reducible exact (cP2.out _).regrown_of)) | (go_at_call 110; first | (with_reducible exact (cF.out _).regrown_of) | (with_reducible exact (cF2.out _).regrown_of))))
    refine wpQuiet_nil ?_
    intro _ hw'
    obtain ⟨⟨dq, osq⟩, hw''⟩ := hw'
    subst hw''
    have hb3 := hbw.trans ((below_regrown wr dq osq).mono (by simpa using hbw.size))
    clear q0 q1 q2
    go_wp2_with fail
    go_roundw
    case rel => exact ⟨k + 1, B, N + 1, rfl, rfl, by omega, by omega, by omega, by omega, HN, hb3⟩
    case measure => simp [intOf]; omega
  ·have e : B = bst (palD r g b) lo m := by
    obtain ⟨h1, h2, h3⟩ := hk.out
    have : k = m := by have := HI.out; omega
    rw [h3, this]
   have HE := Vd e
   have hb4 : Below w.heap.size w wr := ((Below.refl _ _).alloc Vf _).trans (hbw.mono (by omega))
   clear hk e
   go_wp2_with fail
   go_ret
   exact ⟨zC (by rw [HE.out]), hb4⟩
end
section
open Go.RowKit
def qR (c : Int) : Int := if 16777216 <= c /\ c < 33554432 then 256 + bst (palD (chR c) (chG c) (chB c)) 16 240 else cnt c
def qv (c : Int) : Int := if (16777216 <= c /\ c < 33554432) \/ (272 <= c /\ c < 512) then 256 + bst (palD (chR c) (chG c) (chB c)) 0 16 else cnt c
set_option maxHeartbeats 4000000 in
theorem J4 (c : Int) : Gives 44 #[.int .i32 c] (.int .i32 (qR c)) := by
 intro w
 obtain ⟨hr, hg, hb⟩ := xG c
 by_cases h : 16777216 <= c /\ c < 33554432
 ·have hc : cnt c = c := by unfold cnt; rw [if_pos]; unfold zE; rw [decide_eq_true_iff]; omega
  have H : Hid (qR c = 256 + bst (palD (chR c) (chG c) (chB c)) 16 240) := by unfold Hid qR; rw [if_pos h]
  have C := Vd (ZI (chR c) (chG c) (chB c) hr hg hb 16 240 (by omega) (by omega) 256 (by omega))
  obtain ⟨h1, h2⟩ := h
  clear hr hg hb
  go_enter Tryz.func44, Tryz.ntmps44
  go_wp2_with fail
  refine (jU _ _).mono ?_; rintro e w' ⟨rfl, rfl⟩; rw [hc]
  go_wp2_with fail
  refine (ZE _ _).mono ?_; rintro e w1 ⟨rfl, hb1⟩
  obtain ⟨hcl1, hfz1, hz1⟩ := qQ hb1
  go_wp2_with fail
  refine (C.out _).mono ?_; rintro e w2 ⟨rfl, hb2⟩
  have hw2 : Below w.heap.size w w2 := by
   refine zl ?_ ?_ hb2
   ·repeat (first | exact hb1 | refine below_drewN ?_ _ | refine Below.alloc ?_ (by go_size) _ | refine Below.setCell ?_ (by go_size) _)
   ·simp; omega
  go_wp2_with fail
  go_ret
  exact ⟨zC (by rw [H.out]), hw2⟩
 ·have hc : cnt c < 16777216 := by
   unfold cnt zE
   split
   ·rename_i q; rw [decide_eq_true_iff] at q; omega
   ·omega
  have H : Hid (qR c = cnt c) := by unfold Hid qR; rw [if_neg h]
  clear h hr hg hb
  go_enter Tryz.func44, Tryz.ntmps44
  go_wp2_with fail
  refine (jU _ _).mono ?_; rintro e w' ⟨rfl, rfl⟩
  go_wp2_with fail
  go_ret
  exact ⟨zC (by rw [H.out]), Below.refl _ _⟩
set_option maxHeartbeats 4000000 in
theorem J6 (c : Int) : Gives 43 #[.int .i32 c] (.int .i32 (qv c)) := by
 intro w
 obtain ⟨hr, hg, hb⟩ := xG c
 by_cases h : (16777216 <= c /\ c < 33554432) \/ (272 <= c /\ c < 512)
 ·have hc : cnt c = c := by unfold cnt; rw [if_pos]; unfold zE; rw [decide_eq_true_iff]; omega
  have H : Hid (qv c = 256 + bst (palD (chR c) (chG c) (chB c)) 0 16) := by unfold Hid qv; rw [if_pos h]
  have C := Vd (ZI (chR c) (chG c) (chB c) hr hg hb 0 16 (by omega) (by omega) 16 (by omega))
  have h1 : 272 <= c := by omega
  clear hr hg hb h
  go_enter Tryz.func43, Tryz.ntmps43
  go_wp2_with fail
  refine (jU _ _).mono ?_; rintro e w' ⟨rfl, rfl⟩; rw [hc]
  go_wp2_with fail
  refine (ZE _ _).mono ?_; rintro e w1 ⟨rfl, hb1⟩
  obtain ⟨hcl1, hfz1, hz1⟩ := qQ hb1
  go_wp2_with fail
  refine (C.out _).mono ?_; rintro e w2 ⟨rfl, hb2⟩
  have hw2 : Below w.heap.size w w2 := by
   refine zl ?_ ?_ hb2
   ·repeat (first | exact hb1 | refine below_drewN ?_ _ | refine Below.alloc ?_ (by go_size) _ | refine Below.setCell ?_ (by go_size) _)
   ·simp; omega
  go_wp2_with fail
  go_ret
  exact ⟨zC (by rw [H.out]), hw2⟩
 ·have hc : cnt c < 272 := by
   unfold cnt zE
   split
   ·rename_i q; rw [decide_eq_true_iff] at q; omega
   ·omega
  have H : Hid (qv c = cnt c) := by unfold Hid qv; rw [if_neg h]
  clear h hr hg hb
  go_enter Tryz.func43, Tryz.ntmps43
  go_wp2_with fail
  refine (jU _ _).mono ?_; rintro e w' ⟨rfl, rfl⟩
  go_wp2_with fail
  go_ret
  exact ⟨zC (by rw [H.out]), Below.refl _ _⟩
set_option maxHeartbeats 4000000 in
theorem J7 (c : Int) (hl : -2147483648 <= c) (hh : c <= 2147483647) : Gives 76 #[.int .i32 c] (.int .i32 (qR c)) := by
 intro w
 obtain ⟨hr, hg, hb⟩ := xG c
 by_cases h : 16777216 <= c /\ c < 33554432
 ·have hs : qH c = 3 /\ jX c = c - 16777216 := by rcases jY c with ⟨_, _, _⟩ | ⟨_, _, _, _⟩ | ⟨_, _, x, y⟩ | ⟨_, _, _, _, _⟩ <;> first | exact ⟨x, y⟩ | omega
  have H : Hid (qR c = 256 + bst (palD (chR c) (chG c) (chB c)) 16 240) := by unfold Hid qR; rw [if_pos h]
  have C := Vd (ZJ (chR c) (chG c) (chB c) hr hg hb 16 240 (by omega) (by omega) (by omega) 255 (by omega))
  obtain ⟨s1, s2⟩ := hs
  clear hr hg hb h
  go_enter Tryz.func76, Tryz.ntmps76
  go_wp2_with fail
  refine (qO _ hl hh _).mono ?_; rintro e w' ⟨rfl, rfl⟩; rw [s1, s2]
  go_wp2_with fail
  refine (vh _ hl hh _).mono ?_; rintro e w1 ⟨rfl, hb1⟩
  obtain ⟨hcl1, hfz1, hz1⟩ := qQ hb1
  go_wp2_with fail
  refine (C.out _).mono ?_; rintro e w2 ⟨rfl, hb2⟩
  have hw2 : Below w.heap.size w w2 := by
   refine zl ?_ ?_ hb2
   ·repeat (first | exact hb1 | refine below_drewN ?_ _ | refine Below.alloc ?_ (by go_size) _ | refine Below.setCell ?_ (by go_size) _)
   ·simp; omega
  go_wp2_with fail
  go_ret
  exact ⟨zC (by rw [H.out]), hw2⟩
 ·have hs : qH c ≠ 3 := by rcases jY c with ⟨_, x, _⟩ | ⟨_, _, x, _⟩ | ⟨_, _, _, _⟩ | ⟨_, _, _, x, _⟩ <;> omega
  have H : Hid (qR c = cnt c) := by unfold Hid qR; rw [if_neg h]
  clear h hr hg hb
  go_enter Tryz.func76, Tryz.ntmps76
  go_wp2_with fail
  refine (qO _ hl hh _).mono ?_; rintro e w' ⟨rfl, rfl⟩
  go_wp2_with fail
  refine (kh _ hl hh _).mono ?_; rintro e w' ⟨rfl, rfl⟩
  go_wp2_with fail
  go_ret
  exact ⟨zC (by rw [H.out]), Below.refl _ _⟩
set_option maxHeartbeats 4000000 in
theorem ref_To16 (c : Int) (hl : -2147483648 <= c) (hh : c <= 2147483647) : Gives 75 #[.int .i32 c] (.int .i32 (qv c)) := by
 intro w
 obtain ⟨hr, hg, hb⟩ := xG c
 have C := Vd (ZJ (chR c) (chG c) (chB c) hr hg hb 0 16 (by omega) (by omega) (by omega) 15 (by omega))
 clear hr hg hb
 rcases jY c with ⟨c1, s1, s2⟩ | ⟨c1, c2, s1, s2⟩ | ⟨c1, c2, s1, s2⟩ | ⟨c1, c2, c3, s1, s2⟩
 ·have H : Hid (qv c = cnt c) := by unfold Hid qv; rw [if_neg (by omega)]
  clear c1
  go_enter Tryz.func75, Tryz.ntmps75
  go_wp2_with fail
  refine (qO _ hl hh _).mono ?_; rintro e w' ⟨rfl, rfl⟩; rw [s1, s2]
  go_wp2_with fail
  refine (kh _ hl hh _).mono ?_; rintro e w' ⟨rfl, rfl⟩
  go_wp2_with fail
  go_ret
  exact ⟨zC (by rw [H.out]), Below.refl _ _⟩
 ·by_cases lt : c < 272
  ·have H : Hid (qv c = cnt c) := by unfold Hid qv; rw [if_neg (by omega)]
   go_enter Tryz.func75, Tryz.ntmps75
   go_wp2_with fail
   refine (qO _ hl hh _).mono ?_; rintro e w' ⟨rfl, rfl⟩; rw [s1, s2]
   go_wp2_with fail
   refine (kh _ hl hh _).mono ?_; rintro e w' ⟨rfl, rfl⟩
   go_wp2_with fail
   go_ret
   exact ⟨zC (by rw [H.out]), Below.refl _ _⟩
  ·have H : Hid (qv c = 256 + bst (palD (chR c) (chG c) (chB c)) 0 16) := by unfold Hid qv; rw [if_pos (by omega)]
   go_enter Tryz.func75, Tryz.ntmps75
   go_wp2_with fail
   refine (qO _ hl hh _).mono ?_; rintro e w' ⟨rfl, rfl⟩; rw [s1, s2]
   go_wp2_with fail
   refine (vh _ hl hh _).mono ?_; rintro e w1 ⟨rfl, hb1⟩
   obtain ⟨hcl1, hfz1, hz1⟩ := qQ hb1
   go_wp2_with fail
   refine (C.out _).mono ?_; rintro e w2 ⟨rfl, hb2⟩
   have hw2 : Below w.heap.size w w2 := by
    refine zl ?_ ?_ hb2
    ·repeat (first | exact hb1 | refine below_drewN ?_ _ | refine Below.alloc ?_ (by go_size) _ | refine Below.setCell ?_ (by go_size) _)
    ·simp; omega
   go_wp2_with fail
   go_ret
   exact ⟨zC (by rw [H.out]), hw2⟩
 ·have H : Hid (qv c = 256 + bst (palD (chR c) (chG c) (chB c)) 0 16) := by unfold Hid qv; rw [if_pos (by omega)]
  go_enter Tryz.func75, Tryz.ntmps75
  go_wp2_with fail
  refine (qO _ hl hh _).mono ?_; rintro e w' ⟨rfl, rfl⟩; rw [s1, s2]
  go_wp2_with fail
  refine (vh _ hl hh _).mono ?_; rintro e w1 ⟨rfl, hb1⟩
  obtain ⟨hcl1, hfz1, hz1⟩ := qQ hb1
  go_wp2_with fail
  refine (C.out _).mono ?_; rintro e w2 ⟨rfl, hb2⟩
  have hw2 : Below w.heap.size w w2 := by
   refine zl ?_ ?_ hb2
   ·repeat (first | exact hb1 | refine below_drewN ?_ _ | refine Below.alloc ?_ (by go_size) _ | refine Below.setCell ?_ (by go_size) _)
   ·simp; omega
  go_wp2_with fail
  go_ret
  exact ⟨zC (by rw [H.out]), hw2⟩
 ·have H : Hid (qv c = cnt c) := by unfold Hid qv; rw [if_neg (by omega)]
  clear c1 c2 c3
  go_enter Tryz.func75, Tryz.ntmps75
  go_wp2_with fail
  refine (qO _ hl hh _).mono ?_; rintro e w' ⟨rfl, rfl⟩; rw [s1, s2]
  go_wp2_with fail
  refine (kh _ hl hh _).mono ?_; rintro e w' ⟨rfl, rfl⟩
  go_wp2_with fail
  go_ret
  exact ⟨zC (by rw [H.out]), Below.refl _ _⟩
end
end Go.Proofs.YtifoijbpbigaaaaGreatDoor
