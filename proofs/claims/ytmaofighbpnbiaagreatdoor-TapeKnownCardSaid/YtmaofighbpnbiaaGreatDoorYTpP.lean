/- Tapes: what is written, and what is read (plain; of no program). -/
import Derived.Test.YtmaofighbpnbiaaGreatDoorTaCB
namespace Go.Proofs.YtmaofighbpnbiaaGreatDoor
set_option linter.unusedVariables false
structure Frm where
 at_ : Int
 bs : List Int
def sizedB (w h : Int) : Bool := decide (0 ≤ w ∧ w ≤ 4096 ∧ 0 ≤ h ∧ h ≤ 4096 ∧ w * h ≤ 1048576)
def longB (l : List Frm) : Bool := l.any fun f => decide (1048576 < f.bs.length)
def manyB (l : List Frm) : Bool := longB l || decide (16384 < l.length)
def timedF : Int → List Frm → Bool
 | _, [] => true
 | last, f :: l => decide (last ≤ f.at_ ∧ f.at_ ≤ 1099511627776) && timedF f.at_ l
def timedB (l : List Frm) : Bool := timedF 0 l
def checkT (l : List Frm) : Int := if manyB l then 3 else if timedB l then 0 else 301
def numF : Nat → Int → List Int
 | 0, n => [n]
 | k + 1, n => if n < 128 then [n] else (128 + n % 128) :: numF k (n / 128)
def numL (n : Int) : List Int := numF 9 n
def sumF : List Int → Int → Int → Int × Int
 | [], a, c => (a, c)
 | b :: l, a, c => sumF l ((a + b) % 65521) ((c + (a + b) % 65521) % 65521)
def sumL (D : List Int) : Int := 65536 * (sumF D 1 0).2 + (sumF D 1 0).1
def tail4 (s : Int) : List Int := [s % 256, s / 256 % 256, s / 65536 % 256, s / 16777216]
def encF (b : List Int) (last : Int) : List Frm → Option (List Int)
 | [] => some b
 | f :: l => if 1048576 < b.length + f.bs.length then none else encF (b ++ numL (f.at_ - last) ++ numL f.bs.length ++ f.bs) f.at_ l
def headL (w h n : Int) : List Int := [70, 77, 1] ++ numL w ++ numL h ++ numL n
def doneL (b : List Int) : List Int := b ++ tail4 (sumL b)
def encT (w h : Int) (l : List Frm) : List Int × Int :=
 if sizedB w h = false then ([], 5) else if checkT l ≠ 0 then ([], checkT l) else
 match encF (headL w h l.length) 0 l with
 | none => ([], 3)
 | some b => if 1048576 < (doneL b).length then ([], 3) else (doneL b, 0)
structure RdT where
 at_ : Nat
 code : Int
 spot : Int
def failR (r : RdT) (c p : Int) : RdT := if r.code = 0 then ⟨r.at_, c, p⟩ else r
def takeR (D : List Int) (r : RdT) (n : Int) : List Int × RdT :=
 if r.code ≠ 0 then ([], r) else if (D.length : Int) - r.at_ < n then ([], failR r 6 D.length) else ((D.drop r.at_).take n.toNat, ⟨r.at_ + n.toNat, r.code, r.spot⟩)
def numRF (D : List Int) (first : Nat) (most : Int) : Nat → Nat → Int → RdT → Int × RdT
 | 0, i, n, r => (0, failR r 300 first)
 | k + 1, i, n, r =>
  if r.code ≠ 0 then (0, r) else if D.length ≤ r.at_ then (0, failR r 6 D.length) else
  if D.getD r.at_ 0 < 128 then
   (if (D.getD r.at_ 0 = 0 ∧ 0 < i) ∨ most < n + D.getD r.at_ 0 * 128 ^ i then (0, failR ⟨r.at_ + 1, r.code, r.spot⟩ 300 first) else (n + D.getD r.at_ 0 * 128 ^ i, ⟨r.at_ + 1, r.code, r.spot⟩))
  else numRF D first most k (i + 1) (n + D.getD r.at_ 0 % 128 * 128 ^ i) ⟨r.at_ + 1, r.code, r.spot⟩
def numR (D : List Int) (r : RdT) (most : Int) : Int × RdT := numRF D r.at_ most 6 0 0 r
def headS (D : List Int) (r : RdT) (i c : Int) : RdT := if (takeR D r 1).1 ≠ [] ∧ (takeR D r 1).1.getD 0 0 ≠ c then failR (takeR D r 1).2 300 i else (takeR D r 1).2
def frsR (D : List Int) : Nat → Int → RdT → List Frm × RdT
 | 0, _, r => ([], r)
 | k + 1, last, r => if r.code ≠ 0 then ([], r) else
  let p := numR D r (1099511627776 - last)
  let q := numR D p.2 1099511627776
  let t := takeR D q.2 q.1
  let z := frsR D k (last + p.1) t.2
  (⟨last + p.1, t.1⟩ :: z.1, z.2)
structure Dec where
 w : Int
 h : Int
 l : List Frm
 code : Int
 spot : Int
def sizeR (r : RdT) (a : Nat) (w h : Int) : RdT := if 1048576 < w * h then failR r 300 a else r
def sumR (D : List Int) (r : RdT) : RdT :=
 let t := takeR D r 4
 if t.1 = [] then t.2 else if t.1 ≠ tail4 (sumL (D.take r.at_)) then failR t.2 300 r.at_ else if t.2.at_ < D.length then failR t.2 300 t.2.at_ else t.2
def endR (w h : Int) (l : List Frm) (r : RdT) : Dec := if r.code ≠ 0 then ⟨0, 0, [], r.code, r.spot⟩ else ⟨w, h, l, 0, 0⟩
def startR (D : List Int) : RdT := headS D (headS D (headS D ⟨0, 0, 0⟩ 0 70) 1 77) 2 1
def decT (D : List Int) : Dec :=
 if 1048576 < D.length then ⟨0, 0, [], 3, 0⟩ else
 let w := numR D (startR D) 4096
 let h := numR D w.2 4096
 let n := numR D (sizeR h.2 w.2.at_ w.1 h.1) 16384
 let f := frsR D n.1.toNat 0 n.2
 endR w.1 h.1 f.1 (sumR D f.2)
/-! reading what was written -/
theorem numF_step (k : Nat) (m : Int) (h : 128 ≤ m) : numF (k + 1) m = (128 + m % 128) :: numF k (m / 128) := by
 rw [numF, if_neg (by omega)]
theorem numF_small (k : Nat) (m : Int) (h : m < 128) : numF k m = [m] := by
 cases k with
 | zero => rfl
 | succ k => rw [numF, if_pos h]
theorem dropD {D : List Int} {p : Nat} {x : Int} {l : List Int} (h : D.drop p = x :: l) : p < D.length ∧ D.getD p 0 = x ∧ D.drop (p + 1) = l := by
 have lt : p < D.length := by
  rcases Nat.lt_or_ge p D.length with a | a
  ·exact a
  ·rw [List.drop_eq_nil_of_le a] at h; cases h
 rw [List.drop_eq_getElem_cons lt] at h
 simp only [List.cons.injEq] at h
 exact ⟨lt, by rw [List.getD_eq_getElem?_getD, List.getElem?_eq_getElem lt]; exact h.1, h.2⟩
theorem pow_step (i : Nat) (acc m : Int) : acc + m % 128 * 128 ^ i + m / 128 * 128 ^ (i + 1) = acc + m * 128 ^ i := by
 have e : m = 128 * (m / 128) + m % 128 := (Int.mul_ediv_add_emod m 128).symm
 have p : (128 : Int) ^ (i + 1) = 128 ^ i * 128 := Int.pow_succ _ _
 rw [p]
 generalize m / 128 = q at *
 generalize m % 128 = r at *
 generalize (128 : Int) ^ i = P at *
 subst e
 grind
theorem numRF_enc (D : List Int) (first : Nat) (most s : Int) : ∀ (k f i : Nat) (acc m : Int) (p : Nat) (rest : List Int), k ≤ f + 1 → 0 < k → 0 ≤ m → m < 128 ^ k → (0 < i → 0 < m) → acc + m * 128 ^ i ≤ most → D.drop p = numF f m ++ rest →
  numRF D first most k i acc ⟨p, 0, s⟩ = (acc + m * 128 ^ i, ⟨p + (numF f m).length, 0, s⟩)
 | 0, _, _, _, _, _, _, _, h, _, _, _, _, _ => absurd h (Nat.lt_irrefl 0)
 | k + 1, f, i, acc, m, p, rest, hf, _, m0, m1, hi, hm, hD => by
  by_cases c : m < 128
  ·rw [numF_small f m c] at hD ⊢
   obtain ⟨a1, a2, _⟩ := dropD hD
   have n1 : ¬ ((D.getD p 0 = 0 ∧ 0 < i) ∨ most < acc + D.getD p 0 * 128 ^ i) := by
    rw [a2]
    rintro (⟨x, y⟩ | x)
    ·have := hi y; omega
    ·omega
   rw [numRF, if_neg (by simp), if_neg (by simp only; omega), if_pos (by simp only; rw [a2]; exact c), if_neg n1, a2]
   rfl
  ·have c : 128 ≤ m := by omega
   obtain ⟨f', rfl⟩ : ∃ f', f = f' + 1 := by
    cases f with
    | zero =>
     have k0 : k = 0 := by omega
     subst k0
     simp at m1
     omega
    | succ f' => exact ⟨f', rfl⟩
   rw [numF_step f' m c] at hD ⊢
   obtain ⟨a1, a2, a3⟩ := dropD hD
   have k0 : 0 < k := by
    rcases Nat.eq_zero_or_pos k with z | z
    ·subst z; simp at m1; omega
    ·exact z
   have r := numRF_enc D first most s k f' (i + 1) (acc + m % 128 * 128 ^ i) (m / 128) (p + 1) rest (by omega) k0 (by omega) (by
    have e : (128 : Int) ^ (k + 1) = 128 ^ k * 128 := Int.pow_succ _ _
    rw [e] at m1
    exact Int.ediv_lt_of_lt_mul (by decide) m1) (fun _ => by omega) (by rw [pow_step]; exact hm) a3
   rw [pow_step] at r
   have e128 : (128 + m % 128) % 128 = m % 128 := by omega
   rw [numRF, if_neg (by simp), if_neg (by simp only; omega), if_neg (by simp only; rw [a2]; omega), a2, e128, r]
   simp only [List.length_cons, Prod.mk.injEq, RdT.mk.injEq, true_and, and_true]
   omega
theorem numR_enc {D : List Int} {p : Nat} {n most : Int} {rest : List Int} (s : Int) (h0 : 0 ≤ n) (hm : n ≤ most) (h40 : n ≤ 1099511627776) (hD : D.drop p = numL n ++ rest) : numR D ⟨p, 0, s⟩ most = (n, ⟨p + (numL n).length, 0, s⟩) := by
 have := numRF_enc D p most s 6 9 0 0 n p rest (by decide) (by decide) h0 (by omega) (fun h => absurd h (Nat.lt_irrefl 0)) (by simpa using hm) hD
 unfold numR numL
 simpa using this
theorem numF_pos (k : Nat) (m : Int) : 0 < (numF k m).length := by
 cases k with
 | zero => exact Nat.one_pos
 | succ k => rw [numF]; split <;> simp
theorem takeR_enc {D : List Int} {p : Nat} {x rest : List Int} (s : Int) (le : p ≤ D.length) (hD : D.drop p = x ++ rest) : takeR D ⟨p, 0, s⟩ x.length = (x, ⟨p + x.length, 0, s⟩) := by
 have len := congrArg List.length hD
 rw [List.length_drop, List.length_append] at len
 unfold takeR
 rw [if_neg (by simp)]
 simp only
 rw [if_neg (by omega), hD, Int.toNat_natCast, List.take_left']
 rfl
def bodyL (last : Int) : List Frm → List Int
 | [] => []
 | f :: l => numL (f.at_ - last) ++ numL f.bs.length ++ f.bs ++ bodyL f.at_ l
theorem encF_some : ∀ (l : List Frm) (b : List Int) (last : Int) (c : List Int), encF b last l = some c → c = b ++ bodyL last l
 | [], b, last, c, h => by rw [encF] at h; cases h; rw [bodyL, List.append_nil]
 | f :: l, b, last, c, h => by
  rw [encF] at h
  split at h
  ·cases h
  ·rw [encF_some l _ _ c h, bodyL]
   simp only [List.append_assoc]
theorem encF_fits : ∀ (l : List Frm) (b : List Int) (last : Int), (b ++ bodyL last l).length ≤ 1048576 → encF b last l = some (b ++ bodyL last l)
 | [], b, last, h => by rw [encF, bodyL, List.append_nil]
 | f :: l, b, last, h => by
  rw [encF, if_neg (by rw [bodyL] at h; simp only [List.length_append] at h; omega), encF_fits l _ _ (by rw [bodyL] at h; simpa only [List.append_assoc] using h), bodyL]
  simp only [List.append_assoc]
theorem drop_add {D x rest : List Int} {p : Nat} (h : D.drop p = x ++ rest) : D.drop (p + x.length) = rest := by
 rw [← List.drop_drop, h, List.drop_left]
theorem frsR_enc (D : List Int) (s : Int) : ∀ (l : List Frm) (last : Int) (p : Nat) (rest : List Int), 0 ≤ last → timedF last l = true → longB l = false → D.drop p = bodyL last l ++ rest →
  frsR D l.length last ⟨p, 0, s⟩ = (l, ⟨p + (bodyL last l).length, 0, s⟩)
 | [], last, p, rest, _, _, _, hD => rfl
 | f :: l, last, p, rest, h0, ht, hl, hD => by
  rw [timedF, Bool.and_eq_true] at ht
  obtain ⟨t1, t2⟩ := ht
  have t1 := of_decide_eq_true t1
  rw [longB, List.any_cons, Bool.or_eq_false_iff] at hl
  have l1 := of_decide_eq_false hl.1
  rw [bodyL] at hD ⊢
  simp only [List.append_assoc] at hD
  have d1 := drop_add hD
  have d2 := drop_add d1
  have d3 := drop_add d2
  have len := congrArg List.length hD
  rw [List.length_drop, List.length_append, List.length_append] at len
  have ps := numF_pos 9 (f.at_ - last)
  rw [List.length_cons, frsR, if_neg (by simp), numR_enc s (by omega) (by omega) (by omega) hD]
  simp only
  rw [numR_enc s (by omega) (by omega) (by omega) d1]
  simp only
  rw [takeR_enc s (by unfold numL at *; omega) d2]
  simp only
  have e : last + (f.at_ - last) = f.at_ := by omega
  rw [e, frsR_enc D s l f.at_ _ rest (by omega) t2 hl.2 d3]
  simp only [List.length_append, Prod.mk.injEq, RdT.mk.injEq, true_and, and_true]
  omega
theorem tail4_len (s : Int) : (tail4 s).length = 4 := rfl
theorem headS_enc {D : List Int} {p : Nat} {c : Int} {rest : List Int} (s i : Int) (hD : D.drop p = c :: rest) : headS D ⟨p, 0, s⟩ i c = ⟨p + 1, 0, s⟩ := by
 have := takeR_enc (x := [c]) s (Nat.le_of_lt (dropD hD).1) hD
 unfold headS
 rw [show ((1 : Int)) = ((List.length [c] : Nat) : Int) from rfl, this]
 simp
theorem dec_enc (w h : Int) (l : List Frm) (b : List Int) (e : encT w h l = (b, 0)) : decT b = ⟨w, h, l, 0, 0⟩ := by
 unfold encT at e
 split at e
 ·cases e
 rename_i sz
 have sz : sizedB w h = true := by cases q : sizedB w h with | false => exact absurd q sz | true => rfl
 have sz := of_decide_eq_true sz
 split at e
 ·rename_i ne
  simp only [Prod.mk.injEq] at e
  exact absurd e.2 ne
 rename_i ck
 have ck : checkT l = 0 := by omega
 unfold checkT at ck
 have mn : manyB l = false := by cases q : manyB l with | false => rfl | true => rw [q] at ck; simp at ck
 rw [mn] at ck
 have tm : timedB l = true := by cases q : timedB l with | true => rfl | false => rw [q] at ck; simp at ck
 rw [manyB, Bool.or_eq_false_iff] at mn
 have ml := of_decide_eq_false mn.2
 split at e
 ·cases e
 rename_i c hc
 have ec := encF_some l _ _ c hc
 split at e
 ·cases e
 rename_i len
 simp only [Prod.mk.injEq, and_true] at e
 subst e
 have hD : (doneL c).drop 0 = 70 :: 77 :: 1 :: (numL w ++ (numL h ++ (numL l.length ++ (bodyL 0 l ++ tail4 (sumL c))))) := by
  unfold doneL
  rw [ec]
  unfold headL
  simp only [List.drop_zero, List.append_assoc, List.cons_append, List.nil_append]
 have d1 := (dropD hD).2.2
 have d2 := (dropD d1).2.2
 have d3 := (dropD d2).2.2
 have d4 := drop_add d3
 have d5 := drop_add d4
 have d6 := drop_add d5
 have d7 := drop_add d6
 have st : startR (doneL c) = ⟨3, 0, 0⟩ := by
  unfold startR
  rw [headS_enc 0 0 hD, headS_enc 0 1 d1, headS_enc 0 2 d2]
 have n1 := numR_enc 0 sz.1 sz.2.1 (by omega) d3
 have n2 := numR_enc 0 sz.2.2.1 sz.2.2.2.1 (by omega) d4
 have n3 := numR_enc (n := (l.length : Int)) (most := 16384) 0 (by omega) (by omega) (by omega) d5
 have n4 := frsR_enc (doneL c) 0 l 0 _ _ (by omega) tm mn.1 d6
 have cl : (doneL c).take (0 + 1 + 1 + 1 + (numL w).length + (numL h).length + (numL l.length).length + (bodyL 0 l).length) = c := by
  unfold doneL
  have : c.length = 0 + 1 + 1 + 1 + (numL w).length + (numL h).length + (numL l.length).length + (bodyL 0 l).length := by
   rw [ec]
   unfold headL
   simp only [List.length_append, List.length_cons, List.length_nil] <;> omega
  rw [← this, List.take_left']
  rfl
 have dl : (doneL c).length = 0 + 1 + 1 + 1 + (numL w).length + (numL h).length + (numL l.length).length + (bodyL 0 l).length + 4 := by
  unfold doneL
  rw [ec]
  unfold headL
  simp only [List.length_append, List.length_cons, List.length_nil, tail4_len] <;> omega
 have n5 := takeR_enc (x := tail4 (sumL c)) (rest := []) 0 (by rw [dl]; exact Nat.le_add_right _ 4) (by rw [d7, List.append_nil])
 have d0 : decT (doneL c) = (let w' := numR (doneL c) (startR (doneL c)) 4096; let h' := numR (doneL c) w'.2 4096; let n := numR (doneL c) (sizeR h'.2 w'.2.at_ w'.1 h'.1) 16384; let f := frsR (doneL c) n.1.toNat 0 n.2; endR w'.1 h'.1 f.1 (sumR (doneL c) f.2)) := by
  unfold decT
  rw [if_neg len]
 rw [d0, st]
 simp only
 rw [show (3 : Nat) = 0 + 1 + 1 + 1 from rfl, n1]
 simp only
 rw [n2]
 simp only
 unfold sizeR
 rw [if_neg (by omega), n3]
 simp only [Int.toNat_natCast]
 rw [n4]
 simp only
 unfold sumR
 rw [tail4_len] at n5
 simp only
 rw [show ((4 : Int)) = ((4 : Nat) : Int) from rfl, n5]
 simp only
 rw [if_neg (by unfold tail4; simp), cl, if_neg (by simp), if_neg (by omega)]
 unfold endR
 rw [if_neg (by simp)]
end Go.Proofs.YtmaofighbpnbiaaGreatDoor
