/- Words of a patch: what they are read as, and how a patch is written (plain). -/
import Derived.Test.YthcdcbibbfdjmaaDoorStyU
import Derived.Test.YthcdcbibbfdjmaaDoorStyX
import Derived.Test.YthcdcbibbfdjmaaDoorBackP
namespace Go.Proofs.YthcdcbibbfdjmaaDoor
open Go.RowKit
set_option linter.unusedVariables false

/-- the attributes' names -/
def atN (n : Nat) : ByteArray := match n with
  | 0 => ⟨#[98, 111, 108, 100]⟩
  | 1 => ⟨#[102, 97, 105, 110, 116]⟩
  | 2 => ⟨#[105, 116, 97, 108, 105, 99]⟩
  | 3 => ⟨#[117, 110, 100, 101, 114]⟩
  | 4 => ⟨#[98, 108, 105, 110, 107]⟩
  | 5 => ⟨#[114, 101, 118, 101, 114, 115, 101]⟩
  | 6 => ⟨#[104, 105, 100, 100, 101, 110]⟩
  | 7 => ⟨#[115, 116, 114, 105, 107, 101]⟩
  | _ => ⟨#[]⟩
def onB : ByteArray := ⟨#[111, 110]⟩
def noB : ByteArray := ⟨#[110, 111, 45]⟩
def bitN (i : Nat) : B8 := BitVec.ofNat 8 (2 ^ i)
/-- the bit of an attribute's name -/
def attB (s : ByteArray) : B8 := match (List.range 8).find? (fun i => decide (s = atN i)) with
  | some i => bitN i
  | none => 0
/-- the bit of a name behind "no-" -/
def offB (s : ByteArray) : B8 := if s.extract 0 3 = noB then attB (s.extract 3 s.size) else 0

theorem attB_some (s : ByteArray) (i : Nat) (h : i < 8) (e : s = atN i) (hm : ∀ m, m < i → s ≠ atN m) : attB s = bitN i := by
  have f : (List.range 8).find? (fun j => decide (s = atN j)) = some i := by
    rw [List.find?_range_eq_some]
    exact ⟨by simpa using e, by simpa using h, fun j hj => by simpa using hm j hj⟩
  unfold attB
  rw [f]
theorem attB_none (s : ByteArray) (hm : ∀ m, m < 8 → s ≠ atN m) : attB s = 0 := by
  have f : (List.range 8).find? (fun j => decide (s = atN j)) = none := by
    rw [List.find?_range_eq_none]
    exact fun j hj => by simpa using hm j hj
  unfold attB
  rw [f]

/-- a word's colour -/
def colW (s : ByteArray) : Option Int :=
  if s = plainB then some 1 else match (List.range 256).find? (fun n => decide (s = atB n ∨ n < 16 ∧ s = nameB n)) with
    | some n => some (256 + (n : Int))
    | none => hexP s
theorem colW_word (s : ByteArray) : Word s (colW s) := by
  unfold colW
  by_cases p : s = plainB
  · rw [if_pos p]; exact Or.inl ⟨p, rfl⟩
  · rw [if_neg p]
    cases f : (List.range 256).find? (fun n => decide (s = atB n ∨ n < 16 ∧ s = nameB n)) with
    | some n =>
      have h1 := List.mem_of_find?_eq_some f
      have h2 := List.find?_some f
      exact Or.inr (Or.inl ⟨n, by simpa using h1, by simpa using h2, rfl⟩)
    | none =>
      rw [List.find?_eq_none] at f
      have g : ∀ n, n < 256 → ¬ (s = atB n ∨ n < 16 ∧ s = nameB n) := fun n hn => by simpa using f n (by simpa using hn)
      exact Or.inr (Or.inr ⟨p, fun n hn e => g n hn (Or.inl e), fun n hn e => g n (by omega) (Or.inr ⟨hn, e⟩), rfl⟩)
theorem colW_ne (s : ByteArray) (c : Int) (h : colW s = some c) : c ≠ 0 ∧ cnt c = c := by
  have w := colW_word s
  rw [h] at w
  rcases w with ⟨_, e⟩ | ⟨n, hn, _, e⟩ | ⟨_, _, _, e⟩
  · cases e; exact ⟨by decide, rfl⟩
  · cases e
    refine ⟨by omega, ?_⟩
    unfold cnt rightB
    rw [if_pos (by rw [decide_eq_true_iff]; omega)]
  · unfold hexP at e
    split at e
    · rename_i hh
      cases v : hexL 0 s.data.toList.tail with
      | none => rw [v] at e; cases e
      | some v' =>
        rw [v] at e
        have e : c = 16777216 + (v' : Int) := (Option.some.inj e)
        subst e
        have l6 : s.data.toList.tail.length = 6 := by
          rw [List.length_tail]
          have : s.data.toList.length = s.size := by simp
          omega
        have := hexL_bound s.data.toList.tail 0 v' 0 v (by decide)
        rw [l6] at this
        have b : v' < 16777216 := by simpa using this
        refine ⟨by omega, ?_⟩
        unfold cnt rightB
        rw [if_pos (by rw [decide_eq_true_iff]; omega)]
    · cases e

/-- what words are read as: the patch, or the error -/
def parL (p : Pat) : List ByteArray → Except Int Pat
  | [] => .ok p
  | x :: r =>
    if attB x ||| offB x ≠ 0 then
      (if (p.add ||| p.drop) &&& (attB x ||| offB x) ≠ 0 then .error 112 else parL { p with add := p.add ||| attB x, drop := p.drop ||| offB x } r)
    else if x = onB then
      (match r with
       | [] => .error 60
       | y :: r' => match colW y with
         | none => .error 60
         | some c => if p.bg ≠ 0 then .error 112 else parL { p with bg := c } r')
    else match colW x with
      | none => .error 60
      | some c => if p.fg ≠ 0 then .error 112 else parL { p with fg := c } r
def parseS (s : ByteArray) : Except Int Pat := if 65536 < s.size then .error 3 else parL emptyP (wordsP s)
end Go.Proofs.YthcdcbibbfdjmaaDoor
