/- What lies below tapes (kept of earlier texts: Shelf, Base, DfUc, ColA, Byte, StyPl, DfS, NearA, DfF). -/
import Derived.Shelf.Strconv.Itoa0
import Derived.Shelf.Strconv.Itoa1
import Derived.Shelf.LaysM
import Derived.Shelf.Strconv.Itoa2
import Derived.Shelf.Strconv.Itoa3
import Derived.Test.YtmaofighbpnbiaaGreatDoorProg
import Derived.Test.YtmaofighbpnbiaaGreatDoorChecked
import Derived.WalkKit
import Derived.WalkSpells
import Derived.WalkLawsBesides
import Derived.Handy
import Derived.Lib.Hide
import Derived.Deep.QuietTactic
import Derived.BigQuiet
import Derived.Laws.BitsLemmas
import Derived.Laws.BitsAllLaws
import Derived.Laws.ShiftsVarLaws
import Derived.Lib.QuietBelow
import Derived.Lib.AppendIntMem
set_option linter.unusedVariables false
set_option linter.unusedSimpArgs false
namespace Go.Proofs.YtmaofighbpnbiaaGreatDoor
theorem zdY (n : Int) (h : -9223372036854775808 <= n /\ n <= 9223372036854775807) : Go.IntKind.i64.wrap n = n := Go.IntWalk.i64_in n h
theorem zdZ {n : Nat} : n <= n := Nat.le_refl n
theorem zd0 {a : Type _} {x : a} {l : List a} {i : Nat} : (x :: l).take (i + 1) = x :: l.take i := List.take_succ_cons
theorem zd1 {a : Type _} {l : List a} : l.take 0 = [] := List.take_zero
theorem zd2 {a : Type _} {x : a} {l : List a} {i : Nat} : (x :: l).drop (i + 1) = l.drop i := List.drop_succ_cons
theorem zd3 {a : Type _} {l : List a} : l.drop 0 = l := List.drop_zero
section
theorem zdX {p : Prop} (h : p) : Go.RowKit.Hid p := Go.Lib.hid h
open Go.RowKit
abbrev Gives (k : Nat) (args : Array Value) (v : Value) : Prop := ∀ w, Calls Tryz.prog k args w fun e w' => e = .returned v /\ Below w.heap.size w w'
abbrev Tells (k : Nat) (args : Array Value) (v : Value) : Prop := ∀ w, Calls Tryz.prog k args w fun e w' => e = .returned v /\ w = w'
theorem jg {B : Nat} {w W w1 : World} (h : Below B w W) (hB : B <= W.heap.size) (hb : Below W.heap.size W w1) : Below B w w1 := h.trans (hb.mono hB)
theorem JM {k : IntKind} {a b : Int} (h : a = b) : Ending.returned (.int k a) = .returned (.int k b) := by rw [h]
theorem vm {a b : Bool} (h : a = b) : Ending.returned (.bool a) = .returned (.bool b) := by rw [h]
end
section
open Go.RowKit
def byt (t : ByteArray) (i : Nat) : Nat := (t.get! i).toNat
theorem xy (t : ByteArray) (i : Nat) : byt t i < 256 := (t.get! i).toNat_lt
theorem kB (t : ByteArray) (i : Nat) (h : i < t.size) : t.get! i = t[i] := by simp [ByteArray.get!, h]; rfl
def zf (b : Nat) : Nat × Nat × Nat :=
 if b < 128 then (1, 0, 0) else if b < 194 then (0, 0, 0) else if b < 224 then (2, 128, 191) else if b = 224 then (3, 160, 191)
 else if b = 237 then (3, 128, 159) else if b < 240 then (3, 128, 191) else if b = 240 then (4, 144, 191) else if b < 244 then (4, 128, 191) else if b = 244 then (4, 128, 143) else (0, 0, 0)
def goN (t : ByteArray) (n : Nat) : Nat -> Nat -> Nat -> Nat -> Nat -> Nat × Nat
 | 0, _, _, r, _ => (r, n)
 | f + 1, lo, hi, r, i => if i = t.size then (65533, i) else if byt t i < lo \/ hi < byt t i then (65533, i) else goN t n f 128 191 (r * 64 + byt t i % 64) (i + 1)
def decB (t : ByteArray) : Nat × Nat :=
 if (zf (byt t 0)).1 = 0 then (65533, 1) else if (zf (byt t 0)).1 = 1 then (byt t 0, 1)
 else goN t (zf (byt t 0)).1 ((zf (byt t 0)).1 - 1) (zf (byt t 0)).2.1 (zf (byt t 0)).2.2 (byt t 0 % 2 ^ (7 - (zf (byt t 0)).1)) 1
theorem xZ (t : ByteArray) (n f lo hi r i : Nat) (h : i = t.size) : goN t n (f + 1) lo hi r i = (65533, i) := by unfold goN; rw [if_pos h]
theorem xI (t : ByteArray) (n f lo hi r i : Nat) (h : ¬ i = t.size) (hb : byt t i < lo \/ hi < byt t i) : goN t n (f + 1) lo hi r i = (65533, i) := by unfold goN; rw [if_neg h, if_pos hb]
theorem jh (t : ByteArray) (n f lo hi r i : Nat) (h : ¬ i = t.size) (hb : ¬ (byt t i < lo \/ hi < byt t i)) : goN t n (f + 1) lo hi r i = goN t n f 128 191 (r * 64 + byt t i % 64) (i + 1) := by
 conv => lhs; unfold goN
 rw [if_neg h, if_neg hb]
theorem Zc (b : Nat) : (zf b).1 <= 4 := by unfold zf; repeat' (first | split | decide)
theorem zaZ (t : ByteArray) (n : Nat) (hn : n <= 4) : ∀ f lo hi r i, i + f = n -> 1 <= i -> i <= t.size -> r < 2 ^ (21 - 6 * f) ->
  1 <= (goN t n f lo hi r i).2 /\ (goN t n f lo hi r i).2 <= t.size /\ (goN t n f lo hi r i).1 < 2097152 := by
 intro f
 induction f with
 | zero =>
  intro lo hi r i h1 h2 h3 h4
  unfold goN
  refine ⟨by simp; omega, by simp; omega, by simpa using h4⟩
 | succ f ih =>
  intro lo hi r i h1 h2 h3 h4
  by_cases e : i = t.size
  ·rw [xZ _ _ _ _ _ _ _ e]; exact ⟨h2, by simp; omega, by simp⟩
  ·by_cases b : byt t i < lo \/ hi < byt t i
   ·rw [xI _ _ _ _ _ _ _ e b]; exact ⟨h2, h3, by simp⟩
   ·rw [jh _ _ _ _ _ _ _ e b]
    refine ih _ _ _ _ (by omega) (by omega) (by omega) ?_
    have hf : f <= 2 := by omega
    have : f = 0 \/ f = 1 \/ f = 2 := by omega
    rcases this with rfl | rfl | rfl <;> simp at h4 ⊢ <;> omega
theorem xB (t : ByteArray) (h : 0 < t.size) : 1 <= (decB t).2 /\ (decB t).2 <= t.size /\ (decB t).1 < 2097152 := by
 unfold decB
 split
 ·exact ⟨by simp, h, by simp⟩
 ·split
  ·exact ⟨by simp, h, by have := xy t 0; simp; omega⟩
  ·have hl := Zc (byt t 0)
   refine zaZ t _ hl _ _ _ _ _ (by omega) (by decide) h ?_
   have : (zf (byt t 0)).1 = 2 \/ (zf (byt t 0)).1 = 3 \/ (zf (byt t 0)).1 = 4 := by omega
   rcases this with e | e | e <;> rw [e] <;> simp <;> omega
def xJ : Nat -> ByteArray -> List Int
 | 0, _ => []
 | f + 1, t => if t.size = 0 then [] else ((decB t).1 : Int) :: xJ f (t.extract (decB t).2 t.size)
theorem za0 : ∀ f g t, t.size <= f -> t.size <= g -> xJ f t = xJ g t := by
 intro f
 induction f with
 | zero =>
  intro g t h1 h2
  cases g with
  | zero => rfl
  | succ g => unfold xJ; rw [if_pos (by omega)]
 | succ f ih =>
  intro g t h1 h2
  cases g with
  | zero => unfold xJ; rw [if_pos (by omega)]
  | succ g =>
   unfold xJ
   by_cases z : t.size = 0
   ·rw [if_pos z, if_pos z]
   ·rw [if_neg z, if_neg z]
    have b := xB t (by omega)
    rw [ih g _ (by rw [ByteArray.size_extract]; omega) (by rw [ByteArray.size_extract]; omega)]
def zQ (t : ByteArray) : List Int := xJ t.size t
theorem Z1 (t : ByteArray) (h : t.size = 0) : zQ t = [] := by unfold zQ; rw [h]; rfl
theorem Zd (t : ByteArray) (h : 0 < t.size) : zQ t = ((decB t).1 : Int) :: zQ (t.extract (decB t).2 t.size) := by
 obtain ⟨n, hn⟩ : ∃ n, t.size = n + 1 := ⟨t.size - 1, by omega⟩
 have b := xB t h
 unfold zQ
 rw [hn]
 conv => lhs; unfold xJ
 rw [if_neg (by omega), hn]
 rw [za0 n (t.extract (decB t).2 (n + 1)).size _ (by rw [ByteArray.size_extract]; omega) zdZ]
theorem vn : ∀ n t, t.size = n -> (zQ t).length <= n := by
 intro n
 induction n using Nat.strongRecOn with
 | ind n ih =>
  intro t h
  by_cases z : t.size = 0
  ·rw [Z1 t z]; simp
  ·rw [Zd t (by omega), List.length_cons]
   have b := xB t (by omega)
   have := ih (t.size - (decB t).2) (by omega) (t.extract (decB t).2 t.size) (by rw [ByteArray.size_extract]; omega)
   omega
theorem Z2 : ∀ n t, t.size = n -> ∀ r ∈ zQ t, 0 <= r /\ r < 2097152 := by
 intro n
 induction n using Nat.strongRecOn with
 | ind n ih =>
  intro t h r hr
  by_cases z : t.size = 0
  ·rw [Z1 t z] at hr; cases hr
  ·rw [Zd t (by omega)] at hr
   have b := xB t (by omega)
   rcases List.mem_cons.1 hr with e | e
   ·omega
   ·exact ih (t.size - (decB t).2) (by omega) (t.extract (decB t).2 t.size) (by rw [ByteArray.size_extract]; omega) r e
def zE (r : Int) : Int := if 0 <= r /\ r <= 1114111 /\ (r < 55296 \/ 57343 < r) then r else 65533
def qv (r : Int) : List Int :=
 if zE r < 128 then [zE r]
 else if zE r < 2048 then [192 + zE r / 64, 128 + zE r % 64]
 else if zE r < 65536 then [224 + zE r / 4096, 128 + zE r / 64 % 64, 128 + zE r % 64]
 else [240 + zE r / 262144, 128 + zE r / 4096 % 64, 128 + zE r / 64 % 64, 128 + zE r % 64]
def zJ (l : List Int) : List Int := l.flatMap qv
def barr (l : List Int) : ByteArray := ⟨(l.map fun n => UInt8.ofNat n.toNat).toArray⟩
theorem Ze (r : Int) : 0 <= zE r /\ zE r <= 1114111 := by unfold zE; split <;> omega
theorem za1 (r : Int) : ∀ b ∈ qv r, 0 <= b /\ b < 256 := by
 have h := Ze r
 unfold qv
 generalize zE r = c at *
 intro b hb
 repeat' split at hb
 all_goals simp at hb
 all_goals (first | (subst hb; omega) | (rcases hb with rfl | rfl <;> omega) | (rcases hb with rfl | rfl | rfl <;> omega) | (rcases hb with rfl | rfl | rfl | rfl <;> omega))
theorem Z3 (r : Int) : 1 <= (qv r).length /\ (qv r).length <= 4 := by
 unfold qv
 repeat' split
 all_goals simp
theorem za2 (r : Int) (l : List Int) : zJ (r :: l) = qv r ++ zJ l := by unfold zJ; exact List.flatMap_cons ..
theorem za3 (r : Int) (l : List Int) : zJ (l ++ [r]) = zJ l ++ qv r := by simp [zJ]
theorem Z4 (l : List Int) : (zJ l).length <= 4 * l.length := by
 induction l with
 | nil => simp [zJ]
 | cons r l ih => rw [za2, List.length_append, List.length_cons]; have := Z3 r; omega
theorem Z5 (s : ByteArray) (l : List UInt8) : (s.toList == l) = decide (s = ⟨l.toArray⟩) := by
 rw [ByteArray.toList_eq]
 by_cases h : s = ⟨l.toArray⟩
 ·subst h; simp
 ·rw [decide_eq_false h]
  rw [beq_eq_false_iff_ne]
  intro e
  apply h
  apply ByteArray.ext
  rw [<- e, Array.toArray_toList]
theorem Z6 (s t : ByteArray) : (s.toList == t.toList) = decide (s = t) := by
 rw [Z5, ByteArray.toList_eq, Array.toArray_toList]
end
section
open Go.RowKit
def lowK : List (Int × Int × Int) := [
 (0, 31, 1), (127, 159, 1), (169, 169, 8), (174, 174, 8), (768, 879, 2), (1155, 1161, 2), (1425, 1469, 2), (1552, 1562, 2), (1611, 1631, 2), (1750, 1756, 2), (2304, 2306, 2), 
 (2364, 2364, 2), (2369, 2376, 2), (3636, 3642, 2), (3655, 3662, 2), (4352, 4447, 7), (6832, 6862, 2), (7616, 7679, 2), (8203, 8204, 2), (8205, 8205, 3), (8206, 8207, 2), 
 (8234, 8238, 2), (8252, 8252, 8), (8265, 8265, 8), (8288, 8292, 2), (8400, 8432, 2), (8482, 8482, 8), (8592, 8703, 8)]
def midK : List (Int × Int × Int) := [
 (8960, 8985, 8), (8986, 8987, 7), (8988, 9192, 8), (9193, 9196, 7), (9197, 9215, 8), (9725, 9726, 7), (9728, 9747, 8), (9748, 9749, 7), (9750, 9799, 8), (9800, 9811, 7), 
 (9812, 9888, 8), (9889, 9889, 7), (9890, 9897, 8), (9898, 9899, 7), (9900, 9916, 8), (9917, 9918, 7), (9919, 9939, 8), (9940, 9940, 7), (9941, 9969, 8), (9970, 9973, 7), 
 (9974, 9988, 8), (9989, 9989, 7), (9990, 9993, 8), (9994, 9995, 7), (9996, 10023, 8), (10024, 10024, 7), (10025, 10059, 8), (10060, 10060, 7), (10061, 10066, 8), 
 (10067, 10071, 7), (10072, 10132, 8), (10133, 10135, 7), (10136, 10175, 8)]
def highK : List (Int × Int × Int) := [
 (11904, 12350, 7), (12353, 19903, 7), (19968, 42191, 7), (43360, 43388, 7), (44032, 55203, 7), (55296, 57343, 0), (63744, 64255, 7), (65024, 65039, 4), (65056, 65071, 2), 
 (65072, 65135, 7), (65279, 65279, 2), (65281, 65376, 7), (65504, 65510, 7), (127462, 127487, 6), (127744, 127994, 7), (127995, 127999, 5), (128000, 128591, 7), 
 (128640, 128767, 7), (129280, 129535, 7), (131072, 196605, 7), (196608, 262141, 7), (917536, 917631, 2), (917760, 917999, 2)]
def vo : List (Int × Int × Int) -> Int -> Int
 | [], _ => 9
 | (a, e, c) :: l, r => if a <= r /\ r <= e then c else vo l r
def zd (r : Int) : Int :=
 if r < 0 \/ 1114111 < r then 0 else if 32 <= r /\ r < 127 then 9 else vo (if 10175 < r then highK else if 8960 <= r then midK else lowK) r
def told0 : List (Int × Int) := [
  (55296, 57343)]
def told1 : List (Int × Int) := [
  (0, 31), (127, 159)]
def told2 : List (Int × Int) := [
  (768, 879), (1155, 1161), (1425, 1469), (1552, 1562), (1611, 1631), (1750, 1756), (2304, 2306), (2364, 2364), (2369, 2376), (3636, 3642), (3655, 3662), (6832, 6862), 
  (7616, 7679), (8203, 8204), (8206, 8207), (8234, 8238), (8288, 8292), (8400, 8432), (65056, 65071), (65279, 65279), (917536, 917631), (917760, 917999)]
def told3 : List (Int × Int) := [
  (8205, 8205)]
def told4 : List (Int × Int) := [
  (65024, 65039)]
def told5 : List (Int × Int) := [
  (127995, 127999)]
def told6 : List (Int × Int) := [
  (127462, 127487)]
def told7 : List (Int × Int) := [
  (4352, 4447), (8986, 8987), (9193, 9196), (9725, 9726), (9748, 9749), (9800, 9811), (9889, 9889), (9898, 9899), (9917, 9918), (9940, 9940), (9970, 9973), (9989, 9989), 
  (9994, 9995), (10024, 10024), (10060, 10060), (10067, 10071), (10133, 10135), (11904, 12350), (12353, 19903), (19968, 42191), (43360, 43388), (44032, 55203), (63744, 64255), 
  (65072, 65135), (65281, 65376), (65504, 65510), (127744, 127994), (128000, 128591), (128640, 128767), (129280, 129535), (131072, 196605), (196608, 262141)]
def told8 : List (Int × Int) := [
  (169, 169), (174, 174), (8252, 8252), (8265, 8265), (8482, 8482), (8592, 8703), (8960, 8985), (8988, 9192), (9197, 9215), (9728, 9747), (9750, 9799), (9812, 9888), (9890, 9897), 
  (9900, 9916), (9919, 9939), (9941, 9969), (9974, 9988), (9990, 9993), (9996, 10023), (10025, 10059), (10061, 10066), (10072, 10132), (10136, 10175)]
def qH : Nat -> List (Int × Int)
 | 0 => told0
 | 1 => told1
 | 2 => told2
 | 3 => told3
 | 4 => told4
 | 5 => told5
 | 6 => told6
 | 7 => told7
 | 8 => told8
 | _ => []
def qI (l : List (Int × Int)) (r : Int) : Nat := (List.range l.length).countP fun i => !decide (r <= (l.getD i (0, 0)).2)
def jZ (l : List (Int × Int)) (r : Int) : Bool := decide (qI l r < l.length) && decide ((l.getD (qI l r) (0, 0)).1 <= r)
def qN (r : Int) : Nat -> Nat -> Int
 | 0, _ => 9
 | f + 1, c => if jZ (qH c) r = true then (c : Int) else qN r f (c + 1)
def x7 (r : Int) : Int := if r < 0 \/ 1114111 < r then 0 else qN r 9 0
def bpK : List Int := [
 0, 32, 127, 160, 169, 170, 174, 175, 768, 880, 1155, 1162, 1425, 1470, 1552, 1563, 1611, 1632, 1750, 1757, 2304, 2307, 2364, 2365, 2369, 2377, 3636, 3643, 3655, 3663, 4352, 4448, 
 6832, 6863, 7616, 7680, 8203, 8205, 8206, 8208, 8234, 8239, 8252, 8253, 8265, 8266, 8288, 8293, 8400, 8433, 8482, 8483, 8592, 8704, 8960, 8986, 8988, 9193, 9197, 9216, 9725, 9727, 
 9728, 9748, 9750, 9800, 9812, 9889, 9890, 9898, 9900, 9917, 9919, 9940, 9941, 9970, 9974, 9989, 9990, 9994, 9996, 10024, 10025, 10060, 10061, 10067, 10072, 10133, 10136, 10176, 
 11904, 12351, 12353, 19904, 19968, 42192, 43360, 43389, 44032, 55204, 55296, 57344, 63744, 64256, 65024, 65040, 65056, 65072, 65136, 65279, 65280, 65281, 65377, 65504, 65511, 
 127462, 127488, 127744, 127995, 128000, 128592, 128640, 128768, 129280, 129536, 131072, 196606, 196608, 262142, 917536, 917632, 917760, 918000, 1114112]
theorem JO (r : Int) (hr : 0 <= r) : ∀ B : List Int, ∃ b ∈ 0 :: B, b <= r /\ ∀ x ∈ B, x <= r -> x <= b
 | [] => ⟨0, by simp, hr, by simp⟩
 | y :: B => by
  obtain ⟨b, hb, h1, h2⟩ := JO r hr B
  by_cases hy : y <= r /\ b < y
  ·exact ⟨y, by simp, hy.1, fun x hx hxr => by
    rcases List.mem_cons.1 hx with rfl | hx
    ·exact Int.le_refl _
    ·have := h2 x hx hxr; omega⟩
  ·refine ⟨b, by rcases List.mem_cons.1 hb with rfl | hb <;> simp [*], h1, fun x hx hxr => ?_⟩
   rcases List.mem_cons.1 hx with rfl | hx
   ·omega
   ·exact h2 x hx hxr
def Near (b r : Int) : Prop := b <= r /\ ∀ x ∈ bpK, x <= r -> x <= b
theorem Near.le {b r x : Int} (h : Near b r) (hx : x ∈ bpK) : x <= r ↔ x <= b := ⟨h.2 x hx, fun y => Int.le_trans y h.1⟩
theorem JP (b r : Int) (h : Near b r) : ∀ l : List (Int × Int × Int), (∀ p ∈ l, p.1 ∈ bpK /\ p.2.1 + 1 ∈ bpK) -> vo l r = vo l b
 | [], _ => rfl
 | (a, e, c) :: l, hl => by
  have q := hl (a, e, c) (by simp)
  have h1 := h.le q.1
  have h2 := h.le q.2
  simp only at h1 h2
  unfold vo
  rw [JP b r h l (fun p hp => hl p (by simp [hp]))]
  have z : (a <= r /\ r <= e) ↔ (a <= b /\ b <= e) := by omega
  simp only [z]
theorem za4 (b r : Int) (h : Near b r) (l : List (Int × Int)) (hl : ∀ p ∈ l, p.1 ∈ bpK /\ p.2 + 1 ∈ bpK) : qI l r = qI l b := by
 unfold qI
 refine List.countP_congr fun i hi => ?_
 have lt : i < l.length := List.mem_range.1 hi
 have e : l.getD i (0, 0) = l[i] := by simp [lt]
 rw [e]
 have h2 := h.le (hl l[i] (List.getElem_mem _)).2
 have : r <= l[i].2 ↔ b <= l[i].2 := by omega
 simp only [this]
theorem za5 (b r : Int) (h : Near b r) (l : List (Int × Int)) (hl : ∀ p ∈ l, p.1 ∈ bpK /\ p.2 + 1 ∈ bpK) : jZ l r = jZ l b := by
 unfold jZ
 rw [za4 b r h l hl]
 by_cases lt : qI l b < l.length
 ·have e : l.getD (qI l b) (0, 0) = l[qI l b] := by simp [lt]
  rw [e]
  have h1 := h.le (hl l[qI l b] (List.getElem_mem _)).1
  simp only [h1]
 ·simp [lt]
theorem bp_of : (∀ p ∈ lowK ++ midK ++ highK, p.1 ∈ bpK /\ p.2.1 + 1 ∈ bpK) /\ (∀ c : Fin 9, ∀ p ∈ qH c.val, p.1 ∈ bpK /\ p.2 + 1 ∈ bpK) /\ (0 ∈ bpK /\ 32 ∈ bpK /\ 127 ∈ bpK /\ 8960 ∈ bpK /\ 10176 ∈ bpK /\ 1114112 ∈ bpK) := by decide +kernel
theorem JQ (b r : Int) (h : Near b r) : ∀ f c, c + f <= 9 -> qN r f c = qN b f c
 | 0, _, _ => rfl
 | f + 1, c, hc => by
  unfold qN
  rw [JQ b r h f (c + 1) (by omega), za5 b r h (qH c) (bp_of.2.1 ⟨c, by omega⟩)]
theorem kinds_bp : ∀ b ∈ bpK, zd b = x7 b := by decide +kernel
theorem JR (r : Int) : zd r = x7 r := by
 by_cases h0 : r < 0 \/ 1114111 < r
 ·unfold zd x7
  rw [if_pos h0, if_pos h0]
 ·obtain ⟨b, hb, hb1, hb2⟩ := JO r (by omega) bpK
  have hbm : b ∈ bpK := by
   rcases List.mem_cons.1 hb with e | e
   ·rw [e]; exact bp_of.2.2.1
   ·exact e
  have n : Near b r := ⟨hb1, hb2⟩
  obtain ⟨z0, z1, z2, z3, z4, z5⟩ := bp_of.2.2
  have w0 := n.le z0
  have w1 := n.le z1
  have w2 := n.le z2
  have w3 := n.le z3
  have w4 := n.le z4
  have w5 := n.le z5
  have e1 : zd r = zd b := by
   unfold zd
   have n0 : ¬ (b < 0 \/ 1114111 < b) := by omega
   rw [if_neg h0, if_neg n0]
   have s1 : (32 <= r /\ r < 127) ↔ (32 <= b /\ b < 127) := by omega
   have s2 : 10175 < r ↔ 10175 < b := by omega
   have s3 : 8960 <= r ↔ 8960 <= b := by omega
   simp only [s1, s2, s3]
   rw [JP b r n _ (fun p hp => by
    refine bp_of.1 p ?_
    split at hp
    ·simp [hp]
    ·split at hp <;> simp [hp])]
  have e2 : x7 r = x7 b := by
   unfold x7
   rw [if_neg h0, if_neg (by omega), JQ b r n 9 0 (by decide)]
  rw [e1, e2, kinds_bp b hbm]
theorem za6 : ∀ c : Fin 9, ∀ i : Fin 40, ∀ j : Fin 40, i.val <= j.val -> j.val < (qH c.val).length -> ((qH c.val).getD i.val (0, 0)).2 <= ((qH c.val).getD j.val (0, 0)).2 := by decide +kernel
theorem told_len : ∀ c : Fin 9, (qH c.val).length <= 40 := by decide +kernel
end
section
open Go.RowKit
def picK (k : Int) : Bool := decide (k = 7) || decide (k = 8)
def j8 (base ahead next : Int) : Bool :=
 if zd next = 2 \/ zd next = 4 \/ zd next = 3 then true
 else if zd next = 5 then picK base
 else if zd next = 7 \/ zd next = 8 then picK base && decide (zd ahead = 3)
 else false
def qe (l : List Int) (base : Int) : Nat -> Nat -> Nat
 | 0, n => n
 | f + 1, n => if n < l.length /\ j8 base (l.getD (n - 1) 0) (l.getD n 0) = true then qe l base f (n + 1) else n
def jo (l : List Int) : Nat := if zd (l.getD 0 0) = 6 /\ 1 < l.length /\ zd (l.getD 1 0) = 6 then 2 else 1
def zw (l : List Int) : Nat := if zd (l.getD 0 0) = 1 then 1 else qe l (zd (l.getD 0 0)) (16 - jo l) (jo l)
def xC (l : List Int) : Int :=
 if zd (l.getD 0 0) = 1 \/ zd (l.getD 0 0) = 2 \/ zd (l.getD 0 0) = 4 \/ zd (l.getD 0 0) = 3 then 0
 else if zd (l.getD 0 0) = 7 \/ zd (l.getD 0 0) = 5 then 2
 else if zd (l.getD 0 0) = 8 then (if 1 < l.length /\ l.getD 1 0 = 65039 then 2 else 1)
 else if zd (l.getD 0 0) = 6 then (if 1 < l.length /\ zd (l.getD 1 0) = 6 then 2 else 1)
 else 1
theorem JT (l : List Int) (base : Int) (f n : Nat) (h : ¬ (n < l.length /\ j8 base (l.getD (n - 1) 0) (l.getD n 0) = true)) : qe l base f n = n := by
 cases f with
 | zero => rfl
 | succ f => unfold qe; rw [if_neg h]
theorem JU (l : List Int) (base : Int) (f n : Nat) (h : n < l.length /\ j8 base (l.getD (n - 1) 0) (l.getD n 0) = true) : qe l base (f + 1) n = qe l base f (n + 1) := by
 conv => lhs; unfold qe
 rw [if_pos h]
theorem JV (l : List Int) (base : Int) : ∀ f n, n <= l.length -> n <= qe l base f n /\ qe l base f n <= l.length /\ qe l base f n <= n + f := by
 intro f
 induction f with
 | zero => intro n h; unfold qe; omega
 | succ f ih =>
  intro n h
  by_cases c : n < l.length /\ j8 base (l.getD (n - 1) 0) (l.getD n 0) = true
  ·rw [JU l base f n c]; have := ih (n + 1) (by omega); omega
  ·rw [JT l base (f + 1) n c]; omega
theorem x8 (l : List Int) (h : l ≠ []) : 1 <= zw l /\ zw l <= l.length /\ zw l <= 16 := by
 have hp := List.length_pos_iff.2 h
 unfold zw
 split
 ·omega
 ·have hb : 1 <= jo l /\ jo l <= l.length /\ jo l <= 2 := by
   unfold jo
   split
   ·rename_i c; omega
   ·omega
  have := JV l (zd (l.getD 0 0)) (16 - jo l) (jo l) hb.2.1
  omega
def clF : Nat -> List Int -> List (List Int × Int)
 | 0, _ => []
 | f + 1, l => if l = [] then [] else (zJ (l.take (zw l)), xC (l.take (zw l))) :: clF f (l.drop (zw l))
theorem clF_more : ∀ f g l, l.length <= f -> l.length <= g -> clF f l = clF g l := by
 intro f
 induction f with
 | zero =>
  intro g l h1 h2
  have e : l = [] := List.length_eq_zero_iff.1 (by omega)
  cases g with
  | zero => rfl
  | succ g => unfold clF; rw [if_pos e]
 | succ f ih =>
  intro g l h1 h2
  cases g with
  | zero =>
   have e : l = [] := List.length_eq_zero_iff.1 (by omega)
   unfold clF; rw [if_pos e]
  | succ g =>
   unfold clF
   by_cases z : l = []
   ·rw [if_pos z, if_pos z]
   ·rw [if_neg z, if_neg z]
    have b := x8 l z
    rw [ih g _ (by rw [List.length_drop]; omega) (by rw [List.length_drop]; omega)]
def clL (l : List Int) : List (List Int × Int) := clF l.length l
theorem Zf : clL [] = [] := rfl
theorem Zg (l : List Int) (h : l ≠ []) : clL l = (zJ (l.take (zw l)), xC (l.take (zw l))) :: clL (l.drop (zw l)) := by
 have hp := List.length_pos_iff.2 h
 obtain ⟨n, hn⟩ : ∃ n, l.length = n + 1 := ⟨l.length - 1, by omega⟩
 have b := x8 l h
 unfold clL
 rw [hn]
 conv => lhs; unfold clF
 rw [if_neg h]
 rw [clF_more n (l.drop (zw l)).length _ (by rw [List.length_drop]; omega) zdZ]
theorem clL_len : ∀ n l, l.length = n -> (clL l).length <= n := by
 intro n
 induction n using Nat.strongRecOn with
 | ind n ih =>
  intro l h
  by_cases z : l = []
  ·subst z; simp [Zf]
  ·rw [Zg l z, List.length_cons]
   have b := x8 l z
   have := ih (l.length - zw l) (by omega) (l.drop (zw l)) (by rw [List.length_drop])
   omega
def qw (s : ByteArray) : List (ByteArray × Int) := (clL (zQ s)).map fun c => (barr c.1, c.2)
theorem Z7 (s : ByteArray) : (qw s).length <= s.size := by
 unfold qw
 rw [List.length_map]
 have := clL_len _ (zQ s) rfl
 have := vn _ s rfl
 omega
def xf (l : List Int) : Int :=
 if zd (l.getD 0 0) = 1 then 0
 else if zd (l.getD 0 0) = 8 /\ 1 < l.length /\ l.getD 1 0 = 65039 then 2
 else if zd (l.getD 0 0) = 6 /\ 1 < l.length /\ zd (l.getD 1 0) = 6 then 2
 else if zd (l.getD 0 0) = 2 \/ zd (l.getD 0 0) = 4 \/ zd (l.getD 0 0) = 3 then 0
 else if zd (l.getD 0 0) = 7 \/ zd (l.getD 0 0) = 5 then 2
 else 1
theorem za7 : zd 65039 = 4 := by decide +kernel
theorem za8 (l : List Int) (h : l ≠ []) : xC (l.take (zw l)) = xf l := by
 have b := x8 l h
 have e0 : (l.take (zw l)).getD 0 0 = l.getD 0 0 := by
  simp [List.getD_eq_getElem?_getD, show 0 < zw l by omega]
 have len : (l.take (zw l)).length = zw l := by rw [List.length_take]; omega
 have e1 : 1 < zw l -> (l.take (zw l)).getD 1 0 = l.getD 1 0 := by
  intro z
  simp [List.getD_eq_getElem?_getD, z]
 have hp := List.length_pos_iff.2 h
 unfold xC xf
 rw [e0, len]
 have FC : zw l = if zd (l.getD 0 0) = 1 then 1 else qe l (zd (l.getD 0 0)) (16 - jo l) (jo l) := rfl
 have BK : jo l = if zd (l.getD 0 0) = 6 /\ 1 < l.length /\ zd (l.getD 1 0) = 6 then 2 else 1 := rfl
 have GG : ∀ f n, n <= l.length -> n <= qe l (zd (l.getD 0 0)) f n := fun f n hn => (JV l _ f n hn).1
 have GS : 1 < l.length -> l.getD 1 0 = 65039 -> qe l (zd (l.getD 0 0)) 15 1 = qe l (zd (l.getD 0 0)) 14 2 := fun h1 h2 => JU l _ 14 1 ⟨h1, by
  unfold j8
  rw [h2, za7]
  simp⟩
 generalize zd (l.getD 0 0) = k at *
 generalize (l.take (zw l)).getD 1 0 = q1 at *
 generalize l.getD 1 0 = q at *
 by_cases k1 : k = 1
 ·rw [if_pos (Or.inl k1), if_pos k1]
 rw [if_neg k1] at FC
 by_cases k8 : k = 8
 ·rw [if_neg (by omega), if_neg (by omega), if_pos k8, if_neg k1]
  rw [if_neg (by omega)] at BK
  rw [BK] at FC
  by_cases c : 1 < l.length /\ q = 65039
  ·rw [if_pos (⟨k8, c⟩ : k = 8 /\ 1 < l.length /\ q = 65039)]
   have g : 1 < zw l := by
    rw [FC]
    have h1 := GS c.1 c.2
    have h2 := GG 14 2 (by omega)
    show 1 < qe l k 15 1
    omega
   rw [if_pos ⟨g, by rw [e1 g]; exact c.2⟩]
  ·have n1 : ¬ (1 < zw l /\ q1 = 65039) := fun z => c ⟨by omega, by rw [<- e1 z.1]; exact z.2⟩
   rw [if_neg n1, if_neg (show ¬ (k = 8 /\ 1 < l.length /\ q = 65039) from fun z => c z.2), if_neg (show ¬ (k = 6 /\ 1 < l.length /\ zd q = 6) by omega), if_neg (by omega), if_neg (by omega)]
 by_cases k6 : k = 6
 ·rw [if_neg (by omega), if_neg (by omega), if_neg k8, if_pos k6, if_neg k1, if_neg (show ¬ (k = 8 /\ 1 < l.length /\ q = 65039) from fun z => k8 z.1)]
  by_cases c : 1 < l.length /\ zd q = 6
  ·rw [if_pos (⟨k6, c⟩ : k = 6 /\ 1 < l.length /\ zd q = 6)]
   rw [if_pos ⟨k6, c⟩] at BK
   rw [BK] at FC
   have g : 1 < zw l := by
    rw [FC]
    have h2 := GG 14 2 (by omega)
    show 1 < qe l k 14 2
    omega
   rw [if_pos ⟨g, by rw [e1 g]; exact c.2⟩]
  ·have n1 : ¬ (1 < zw l /\ zd q1 = 6) := fun z => c ⟨by omega, by rw [<- e1 z.1]; exact z.2⟩
   rw [if_neg n1, if_neg (show ¬ (k = 6 /\ 1 < l.length /\ zd q = 6) from fun z => c z.2), if_neg (by omega), if_neg (by omega)]
 ·rw [if_neg k1, if_neg (show ¬ (k = 8 /\ 1 < l.length /\ q = 65039) from fun z => k8 z.1), if_neg (show ¬ (k = 6 /\ 1 < l.length /\ zd q = 6) from fun z => k6 z.1)]
  by_cases c2 : k = 2 \/ k = 4 \/ k = 3
  ·rw [if_pos (Or.inr c2), if_pos c2]
  ·rw [if_neg (show ¬ (k = 1 \/ k = 2 \/ k = 4 \/ k = 3) by omega), if_neg c2]
   by_cases c7 : k = 7 \/ k = 5
   ·rw [if_pos c7, if_pos c7]
   ·rw [if_neg c7, if_neg c7, if_neg k8, if_neg k6]
end
section
open Go.RowKit
def jJ (c : Int) : Bool := decide (c = 0 \/ c = 1 \/ (256 <= c /\ c < 512) \/ (16777216 <= c /\ c < 33554432))
def cnt (c : Int) : Int := if jJ c = true then c else 0
theorem JW (c : Int) : Tells 130 #[.int .i32 c] (.bool (jJ c)) := by
 intro w
 by_cases h0 : c = 0
 ·subst h0
  go_enter Tryz.func130, Tryz.ntmps130
  go_wp2
  go_ret
  exact ⟨rfl, rfl⟩
 by_cases h1 : c = 1
 ·subst h1
  go_enter Tryz.func130, Tryz.ntmps130
  go_wp2
  go_ret
  exact ⟨rfl, rfl⟩
 by_cases h2 : 16777216 <= c
 ·by_cases h3 : c < 33554432
  all_goals
   have H : Hid (jJ c = decide (c < 33554432)) := by unfold jJ Hid; rw [decide_eq_decide]; omega
   go_enter Tryz.func130, Tryz.ntmps130
   go_wp2
   go_ret
   exact ⟨vm (by rw [H.out]; simp [h3]), rfl⟩
 ·by_cases h3 : 256 <= c
  ·by_cases h4 : c < 512
   all_goals
    have H : Hid (jJ c = decide (c < 512)) := by unfold jJ Hid; rw [decide_eq_decide]; omega
    go_enter Tryz.func130, Tryz.ntmps130
    go_wp2
    go_ret
    exact ⟨vm (by rw [H.out]; simp [h4]), rfl⟩
  ·have H : Hid (jJ c = false) := by unfold jJ Hid; rw [decide_eq_false_iff_not]; omega
   go_enter Tryz.func130, Tryz.ntmps130
   go_wp2
   go_ret
   exact ⟨vm (by rw [H.out]), rfl⟩
def lev (n : Int) : Int := if n = 0 then 0 else 55 + 40 * n
def bitOr (b lo hi : Int) : Int := if b = 1 then hi else lo
def pg (n : Int) : Int := if n < 8 then bitOr (n / 2 % 2) 0 170 else if n < 16 then bitOr (n / 2 % 2) 85 255 else if n < 232 then lev ((n - 16) / 6 % 6) else 8 + 10 * (n - 232)
def pb (n : Int) : Int := if n < 8 then bitOr (n / 4 % 2) 0 170 else if n < 16 then bitOr (n / 4 % 2) 85 255 else if n < 232 then lev ((n - 16) % 6) else 8 + 10 * (n - 232)
end
section
open Go.RowKit
abbrev B8 := BitVec 8
abbrev bI (a : B8) : Int := (a.toNat : Int)
@[go_sem] theorem b8_and (a b : B8) : bits .and .u8 (bI a) (bI b) = bI (a &&& b) := by
 rw [u8_and_nat _ _ a.isLt b.isLt, <- BitVec.toNat_and]
@[go_sem] theorem b8_or (a b : B8) : bits .or .u8 (bI a) (bI b) = bI (a ||| b) := by
 rw [u8_or_nat _ _ a.isLt b.isLt, <- BitVec.toNat_or]
@[go_sem] theorem b8_andNot (a b : B8) : bits .andNot .u8 (bI a) (bI b) = bI (a &&& ~~~b) := by
 rw [u8_andNot_nat _ _ a.isLt b.isLt]
 show _ = ((a &&& ~~~b).toNat : Int)
 rw [BitVec.toNat_and, BitVec.toNat_not]
@[go_sem] theorem b8_and_lit (a : B8) (n : Nat) (h : n < 256) : bits .and .u8 (bI a) (n : Int) = bI (a &&& BitVec.ofNat 8 n) := by
 rw [u8_and_nat _ _ a.isLt h]
 show _ = ((a &&& BitVec.ofNat 8 n).toNat : Int)
 rw [BitVec.toNat_and, BitVec.toNat_ofNat, Nat.mod_eq_of_lt h]
end
section
open Go.RowKit
structure Sty where
 fg : Int
 bg : Int
 at_ : B8
 deriving DecidableEq
structure Pat where
 fg : Int
 bg : Int
 add : B8
 drop : B8
 deriving DecidableEq
def plC (c : Int) : Int := if c = 1 then 0 else cnt c
def qa (s : Sty) : Sty := ⟨plC s.fg, plC s.bg, s.at_⟩
def layC (c p : Int) : Int := if p = 0 then c else if p = 1 then 0 else p
def xK (s : Sty) (p : Pat) : Sty := ⟨layC s.fg (cnt p.fg), layC s.bg (cnt p.bg), (s.at_ &&& ~~~p.drop) ||| p.add⟩
def ka (s : Sty) (l : List Pat) : Sty := l.foldl xK (qa s)
def onN (i : Nat) : Int := [1, 2, 3, 4, 5, 7, 8, 9].getD i 0
def offN (i : Nat) : Int := [22, 22, 23, 24, 25, 27, 28, 29].getD i 0
end
section
open Go.RowKit
theorem cnt_cnt (c : Int) : cnt (cnt c) = cnt c := by
 unfold cnt
 by_cases r : jJ c = true
 ·rw [if_pos r, if_pos r]
 ·rw [if_neg r]; rfl
theorem JY (c : Int) : plC (cnt c) = layC 0 (cnt c) := by
 unfold plC layC
 by_cases z : cnt c = 0
 ·rw [z]; rfl
 ·rw [if_neg z]
  by_cases e : cnt c = 1
  ·rw [if_pos e, if_pos e]
  ·rw [if_neg e, if_neg e, cnt_cnt]
end
section
open Go.RowKit
def setM (n : Int) : B8 := if n = 1 then 1 else if n = 2 then 2 else if n = 3 then 4 else if n = 4 then 8 else if n = 5 then 16 else if n = 7 then 32 else if n = 8 then 64 else if n = 9 then 128 else 0
def takeM (n : Int) : B8 := if n = 22 then 3 else if n = 23 then 4 else if n = 24 then 8 else if n = 25 then 16 else if n = 27 then 32 else if n = 28 then 64 else if n = 29 then 128 else 0
def qf (a : B8) (n : Int) : B8 := (a &&& ~~~(takeM n)) ||| setM n
def colN (c n : Int) : Int := if 30 <= n /\ n <= 37 then n + 226 else if 90 <= n /\ n <= 97 then n + 174 else if n = 39 then 0 else c
def stepN (s : Sty) (n : Int) : Sty := ⟨colN s.fg n, colN s.bg (n - 10), qf s.at_ n⟩
def okB (n : Int) : Bool := decide (0 <= n /\ n <= 255)
def zW : List Int -> Option (Int × Nat)
 | 5 :: a :: _ => if okB a = true then some (256 + a, 2) else none
 | 2 :: a :: b :: c :: _ => if okB a = true /\ okB b = true /\ okB c = true then some (16777216 + 65536 * a + 256 * b + c, 4) else none
 | _ => none
def qO : Sty := ⟨0, 0, 0⟩
def qg : Nat -> Sty -> List Int -> Sty
 | 0, s, _ => s
 | _ + 1, s, [] => s
 | f + 1, s, n :: r =>
  if n = 0 then qg f qO r
  else if n = 38 then (match zW r with | some (c, k) => qg f { s with fg := c } (r.drop k) | none => s)
  else if n = 48 then (match zW r with | some (c, k) => qg f { s with bg := c } (r.drop k) | none => s)
  else qg f (stepN s n) r
def qA (s : Sty) (l : List Int) : Sty := if l = [] then qO else qg l.length (qa s) l
theorem za9 (l : List Int) : ∀ (f g : Nat) (s : Sty), l.length <= f -> l.length <= g -> qg f s l = qg g s l := by
 induction h : l.length using Nat.strongRecOn generalizing l with
 | _ m ih =>
  intro f g s hf hg
  subst h
  cases l with
  | nil => cases f <;> cases g <;> rfl
  | cons n r =>
   simp only [List.length_cons] at hf hg ih
   obtain ⟨f, rfl⟩ : ∃ k, f = k + 1 := ⟨f - 1, by omega⟩
   obtain ⟨g, rfl⟩ : ∃ k, g = k + 1 := ⟨g - 1, by omega⟩
   have go : ∀ (s : Sty) (k : Nat), qg f s (r.drop k) = qg g s (r.drop k) := fun s k =>
    ih _ (by rw [List.length_drop]; omega) (r.drop k) rfl f g s (by rw [List.length_drop]; omega) (by rw [List.length_drop]; omega)
   have go0 : ∀ s, qg f s r = qg g s r := fun s => by simpa using go s 0
   unfold qg
   rw [go0, go0]
   split
   ·rfl
   ·split
    ·split
     ·exact go _ _
     ·rfl
    ·split
     ·split
      ·exact go _ _
      ·rfl
     ·rfl
end
section
open Go.RowKit
def smpl (n : Int) : Bool := decide (n ≠ 0 /\ n ≠ 38 /\ n ≠ 48)
def runL (s : Sty) (l : List Int) : Sty := qg l.length s l
theorem JZ (s : Sty) (l : List Int) (f : Nat) (h : l.length <= f) : qg f s l = runL s l := za9 l f l.length s h zdZ
theorem zba (s : Sty) (r : List Int) : runL s (0 :: r) = runL qO r := by
 show qg (r.length + 1) s (0 :: r) = _
 unfold qg
 rw [if_pos rfl]; rfl
theorem zbb (s : Sty) (n : Int) (r : List Int) (h : smpl n = true) : runL s (n :: r) = runL (stepN s n) r := by
 unfold smpl at h
 rw [decide_eq_true_iff] at h
 show qg (r.length + 1) s (n :: r) = _
 unfold qg
 rw [if_neg h.1, if_neg h.2.1, if_neg h.2.2]; rfl
theorem runL_38 (s : Sty) (r : List Int) (c : Int) (k : Nat) (h : zW r = some (c, k)) : runL s (38 :: r) = runL { s with fg := c } (r.drop k) := by
 show qg (r.length + 1) s (38 :: r) = _
 unfold qg
 rw [if_neg (by decide), if_pos rfl, h]
 exact JZ _ _ _ (by rw [List.length_drop]; omega)
theorem runL_48 (s : Sty) (r : List Int) (c : Int) (k : Nat) (h : zW r = some (c, k)) : runL s (48 :: r) = runL { s with bg := c } (r.drop k) := by
 show qg (r.length + 1) s (48 :: r) = _
 unfold qg
 rw [if_neg (by decide), if_neg (by decide), if_pos rfl, h]
 exact JZ _ _ _ (by rw [List.length_drop]; omega)
def inSty (c : Int) : Prop := c = 0 \/ (256 <= c /\ c < 512) \/ (16777216 <= c /\ c < 33554432)
theorem vq (a : B8) (n : Int) (h : 30 <= n) : qf a n = a := by
 unfold qf takeM setM
 simp only [show n ≠ 22 by omega, show n ≠ 23 by omega, show n ≠ 24 by omega, show n ≠ 25 by omega, show n ≠ 27 by omega, show n ≠ 28 by omega, show n ≠ 29 by omega,
  show n ≠ 1 by omega, show n ≠ 2 by omega, show n ≠ 3 by omega, show n ≠ 4 by omega, show n ≠ 5 by omega, show n ≠ 7 by omega, show n ≠ 8 by omega, show n ≠ 9 by omega, if_false]
 simp
 rw [show (255#8) = BitVec.allOnes 8 from rfl, BitVec.and_allOnes]
end
section
open Go.RowKit
end
section
open Go.RowKit
end
section
open Go.RowKit
end
section
open Go.RowKit
def shN (x : Int) : Bool := decide ((40 <= x /\ x <= 49) \/ (100 <= x /\ x <= 107))
def mN (x : Int) : Int := if shN x = true then x - 10 else x
def bitS (i : Nat) : B8 := BitVec.ofNat 8 (2 ^ i)
def jB (m : Int) (a : B8) : Nat -> B8
  | 0 => a
  | j + 1 => let b := if m = onN j then jB m a j ||| bitS j else jB m a j
             if m = offN j then b &&& ~~~bitS j else b
theorem zbc : ∀ (n : Fin 30) (a : B8), jB (n.val : Int) a 8 = qf a (n.val : Int) := by decide +kernel
theorem on_vals : ∀ j : Fin 8, 0 < onN j.val /\ onN j.val < 30 /\ 0 < offN j.val /\ offN j.val < 30 := by decide
theorem zbd (m : Int) (a : B8) (h : m < 0 \/ 30 <= m) : ∀ j, j <= 8 -> jB m a j = a := by
 intro j
 induction j with
 | zero => intro _; rfl
 | succ j ih =>
  intro hj
  have v := on_vals ⟨j, by omega⟩
  simp only at v
  unfold jB
  simp only
  rw [if_neg (by omega), if_neg (by omega)]
  exact ih (by omega)
theorem zbe (m : Int) (a : B8) : jB m a 8 = qf a m := by
 by_cases h : 0 <= m /\ m < 30
 ·have := zbc ⟨m.toNat, by omega⟩ a
  simp only [Int.toNat_of_nonneg h.1] at this
  exact this
 ·rw [zbd m a (by omega) 8 (by decide)]
  by_cases h30 : 30 <= m
  ·exact (vq a m h30).symm
  ·unfold qf takeM setM
   simp only [show m ≠ 22 by omega, show m ≠ 23 by omega, show m ≠ 24 by omega, show m ≠ 25 by omega, show m ≠ 27 by omega, show m ≠ 28 by omega, show m ≠ 29 by omega,
    show m ≠ 1 by omega, show m ≠ 2 by omega, show m ≠ 3 by omega, show m ≠ 4 by omega, show m ≠ 5 by omega, show m ≠ 7 by omega, show m ≠ 8 by omega, show m ≠ 9 by omega, if_false]
   simp
   rw [show (255#8) = BitVec.allOnes 8 from rfl, BitVec.and_allOnes]
theorem zbf (t : Sty) (r : List Int) : runL t (0 :: r) = runL { qO with at_ := qf qO.at_ 0 } r := by
 rw [zba]; rfl
theorem J0 (t : Sty) (x : Int) (r : List Int) (h0 : x ≠ 0) (h38 : mN x ≠ 38) : runL t (x :: r) = runL ⟨colN t.fg x, colN t.bg (x - 10), qf t.at_ (mN x)⟩ r := by
 have e : qf t.at_ (mN x) = qf t.at_ x := by
  unfold mN shN
  split
  ·rename_i h
   rw [decide_eq_true_iff] at h
   rw [vq _ _ (by omega), vq _ _ (by omega)]
  ·rfl
 have s : smpl x = true := by
  unfold smpl
  rw [decide_eq_true_iff]
  refine ⟨h0, ?_, ?_⟩
  ·rintro rfl; exact h38 rfl
  ·rintro rfl; exact h38 rfl
 rw [zbb t x r s, e]
 rfl
theorem mN_zero (x : Int) (h : mN x = 0) : x = 0 := by
 unfold mN shN at h
 split at h
 ·rename_i q; rw [decide_eq_true_iff] at q; omega
 ·exact h
theorem run_fgN (t : Sty) (x : Int) (r : List Int) (hs : shN x = false) (h0 : mN x ≠ 0) (h38 : mN x ≠ 38) : runL t (x :: r) = runL { (⟨colN t.fg (mN x), t.bg, t.at_⟩ : Sty) with at_ := qf t.at_ (mN x) } r := by
 have e : mN x = x := by unfold mN; rw [if_neg (by rw [hs]; decide)]
 rw [J0 t x r (by rw [<- e]; exact h0) h38]
 have b : colN t.bg (x - 10) = t.bg := by
  unfold shN at hs
  rw [decide_eq_false_iff_not] at hs
  unfold colN; rw [if_neg (by omega), if_neg (by omega), if_neg (by omega)]
 rw [b, e]
theorem run_bgN (t : Sty) (x : Int) (r : List Int) (hs : shN x = true) (h38 : mN x ≠ 38) : runL t (x :: r) = runL { (⟨t.fg, colN t.bg (mN x), t.at_⟩ : Sty) with at_ := qf t.at_ (mN x) } r := by
 have e : mN x = x - 10 := by unfold mN; rw [if_pos hs]
 unfold shN at hs
 rw [decide_eq_true_iff] at hs
 rw [J0 t x r (by omega) h38]
 have b : colN t.fg x = t.fg := by unfold colN; rw [if_neg (by omega), if_neg (by omega), if_neg (by omega)]
 rw [b, e]
theorem run_rich (t : Sty) (x : Int) (r : List Int) (h : mN x = 38) (c : Int) (k : Nat) (hr : zW r = some (c, k)) :
  runL t (x :: r) = runL (if shN x = true then { t with bg := c, at_ := qf t.at_ 38 } else { t with fg := c, at_ := qf t.at_ 38 }) (r.drop k) := by
 have hx : x = 38 \/ x = 48 := by
  unfold mN shN at h
  split at h
  ·rename_i q; rw [decide_eq_true_iff] at q; omega
  ·omega
 rcases hx with rfl | rfl
 ·rw [runL_38 t r c k hr, vq _ _ (by decide)]; rfl
 ·rw [runL_48 t r c k hr, vq _ _ (by decide)]; rfl
theorem run_poor (t : Sty) (x : Int) (r : List Int) (h : mN x = 38) (hr : zW r = none) : runL t (x :: r) = t := by
 have hx : x = 38 \/ x = 48 := by
  unfold mN shN at h
  split at h
  ·rename_i q; rw [decide_eq_true_iff] at q; omega
  ·omega
 rcases hx with rfl | rfl
 ·show qg (r.length + 1) t (38 :: r) = t
  unfold qg
  rw [if_neg (by decide), if_pos rfl, hr]
 ·show qg (r.length + 1) t (48 :: r) = t
  unfold qg
  rw [if_neg (by decide), if_neg (by decide), if_pos rfl, hr]
theorem rich_len {r : List Int} {c : Int} {k : Nat} (h : zW r = some (c, k)) : k <= r.length /\ 2 <= k /\ inSty c /\ c ≠ 0 := by
 unfold zW at h
 split at h
 ·split at h
  ·rename_i o
   unfold okB at o
   rw [decide_eq_true_iff] at o
   cases h
   exact ⟨by simp, by decide, Or.inr (Or.inl ⟨by omega, by omega⟩), by omega⟩
  ·cases h
 ·split at h
  ·rename_i o
   obtain ⟨o1, o2, o3⟩ := o
   unfold okB at o1 o2 o3
   rw [decide_eq_true_iff] at o1 o2 o3
   cases h
   exact ⟨by simp, by decide, Or.inr (Or.inr ⟨by omega, by omega⟩), by omega⟩
  ·cases h
 ·cases h
end
section
open Go.RowKit
end
section
open Go.RowKit
structure Cel where
 text : ByteArray
 wide : Int
 st : Sty
deriving DecidableEq
def oneB (s : ByteArray) : Option Int := match qw s with
 | [c] => if c.1 = s then some c.2 else none
 | _ => none
theorem J4 (l : List Int) : xC l = 0 \/ xC l = 1 \/ xC l = 2 := by
 unfold xC
 repeat' (first | (split; done) | split)
 all_goals omega
structure Scr where
 w : Int
 h : Int
 cells : List Cel
 x : Int
 y : Int
 shown : Bool
end
section
open Go.RowKit
def zB : ByteArray := ⟨#[]⟩
def itB (n : Int) : ByteArray := ⟨(Lib.itoa n).toArray⟩
def qJ : Cel := ⟨⟨#[32]⟩, 1, qO⟩
def celD : Cel := ⟨⟨#[]⟩, 0, qO⟩
end
end Go.Proofs.YtmaofighbpnbiaaGreatDoor
