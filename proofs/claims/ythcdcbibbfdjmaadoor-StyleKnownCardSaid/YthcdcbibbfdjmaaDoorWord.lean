/- What a colour's word is: plain. -/
import Derived.Test.YthcdcbibbfdjmaaDoorText
namespace Go.Proofs.YthcdcbibbfdjmaaDoor
open Go.RowKit

def plainB : ByteArray := ⟨#[112, 108, 97, 105, 110]⟩
def atB (n : Nat) : ByteArray := ⟨(64 :: digL 10 n (nd n)).toArray⟩
def hexP (s : ByteArray) : Option Int := if s.size = 7 ∧ s.data.toList.headD 0 = 35 then (hexL 0 s.data.toList.tail).map fun v => (16777216 + (v : Int)) else none

/-- what a text is read as -/
def Word (s : ByteArray) (r : Option Int) : Prop :=
  (s = plainB ∧ r = some 1) ∨ (∃ n : Nat, n < 256 ∧ (s = atB n ∨ n < 16 ∧ s = nameB n) ∧ r = some (256 + (n : Int)))
  ∨ (s ≠ plainB ∧ (∀ n, n < 256 → s ≠ atB n) ∧ (∀ n, n < 16 → s ≠ nameB n) ∧ r = hexP s)

def parEnd : Option Int → Value
  | some c => .tuple #[.int .i32 c, .int .i64 0]
  | none => .tuple #[.int .i32 0, .int .i64 50]

def okU (l : List UInt8) : Option Nat := match Lib.parseUintB 8 l with | .ok u => some u | _ => none
theorem okU_dec : ∀ n : Fin 256, okU (digL 10 n.val (nd n.val)) = some n.val := by decide +kernel
theorem okU_ok {l : List UInt8} {u : Nat} (h : okU l = some u) : Lib.parseUintB 8 l = .ok u := by
  unfold okU at h
  split at h
  · rename_i e; cases h; exact e
  · cases h
theorem okU_of {l : List UInt8} {u : Nat} (h : Lib.parseUintB 8 l = .ok u) : okU l = some u := by unfold okU; rw [h]
theorem okU_none {l : List UInt8} (h : okU l = none) (u : Nat) : Lib.parseUintB 8 l ≠ .ok u := fun e => by rw [okU_of e] at h; cases h

theorem atB_inj {m n : Nat} (hm : m < 256) (hn : n < 256) (h : atB m = atB n) : m = n := by
  have e : digL 10 m (nd m) = digL 10 n (nd n) := by
    have := congrArg (fun b : ByteArray => b.data.toList.tail) h
    simpa [atB] using this
  have a := okU_dec ⟨m, hm⟩
  have b := okU_dec ⟨n, hn⟩
  simp only at a b
  rw [e, b] at a
  exact (Option.some.inj a).symm

theorem nameB_inj : ∀ m n : Fin 16, nameB m.val = nameB n.val → m = n := by decide +kernel
theorem name_plain : ∀ n : Fin 16, nameB n.val ≠ plainB := by decide +kernel
theorem head_name : ∀ n : Fin 16, (nameB n.val).data.toList.headD 0 ≠ 64 := by decide +kernel
theorem head_at (n : Nat) : (atB n).data.toList.headD 0 = 64 := rfl
theorem at_plain (n : Nat) : atB n ≠ plainB := fun h => by
  have := head_at n
  rw [h] at this
  revert this
  decide
theorem at_name (n m : Nat) (hm : m < 16) : atB n ≠ nameB m := fun h => head_name ⟨m, hm⟩ (by rw [← h]; exact head_at n)

theorem Word.uniq {s : ByteArray} {r r' : Option Int} (h : Word s r) (h' : Word s r') : r = r' := by
  rcases h with ⟨e, rfl⟩ | ⟨n, hn, e, rfl⟩ | ⟨a, b, c, rfl⟩ <;> rcases h' with ⟨e', rfl⟩ | ⟨n', hn', e', rfl⟩ | ⟨a', b', c', rfl⟩
  · rfl
  · rcases e' with e' | ⟨l, e'⟩
    · exact absurd (e'.symm.trans e) (at_plain n')
    · exact absurd (e'.symm.trans e) (name_plain ⟨n', l⟩)
  · exact absurd e a'
  · rcases e with e | ⟨l, e⟩
    · exact absurd (e.symm.trans e') (at_plain n)
    · exact absurd (e.symm.trans e') (name_plain ⟨n, l⟩)
  · rcases e with e | ⟨l, e⟩ <;> rcases e' with e' | ⟨l', e'⟩
    · rw [atB_inj hn hn' (e.symm.trans e')]
    · exact absurd (e.symm.trans e') (at_name n n' l')
    · exact absurd (e'.symm.trans e) (at_name n' n l)
    · have := nameB_inj ⟨n, l⟩ ⟨n', l'⟩ (e.symm.trans e')
      rw [show n = n' from congrArg Fin.val this]
  · rcases e with e | ⟨l, e⟩
    · exact absurd e (b' n hn)
    · exact absurd e (c' n l)
  · exact absurd e' a
  · rcases e' with e' | ⟨l, e'⟩
    · exact absurd e' (b n' hn')
    · exact absurd e' (c n' l)
  · rfl

theorem Word.some_one (s : ByteArray) : ∃ r, Word s r := by
  by_cases a : s = plainB
  · exact ⟨_, Or.inl ⟨a, rfl⟩⟩
  by_cases b : ∃ n : Nat, n < 256 ∧ (s = atB n ∨ n < 16 ∧ s = nameB n)
  · obtain ⟨n, hn, e⟩ := b
    exact ⟨_, Or.inr (Or.inl ⟨n, hn, e, rfl⟩)⟩
  · exact ⟨_, Or.inr (Or.inr ⟨a, fun n hn e => b ⟨n, hn, Or.inl e⟩, fun n hn e => b ⟨n, by omega, Or.inr ⟨hn, e⟩⟩, rfl⟩)⟩
end Go.Proofs.YthcdcbibbfdjmaaDoor
