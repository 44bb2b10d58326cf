/- How long a row of numbers is; a colour's numbers put behind a row: the program's walks. -/
import Derived.Test.YtkllilehdpdbdaaGreatDoorStyO
import Derived.Test.YtkllilehdpdbdaaGreatDoorStyPl
import Derived.Test.YtkllilehdpdbdaaGreatDoorRows2
import Derived.Laws.AppendOwnNone
import Derived.Maps.AppendAt
namespace Go.Proofs.YtkllilehdpdbdaaGreatDoor
open Go.RowKit Go.Sort
set_option linter.unusedVariables false

def ints (l : List Int) : List Value := l.map (.int .i64)
theorem ints_app (a b : List Int) : ints (a ++ b) = ints a ++ ints b := by simp [ints]
theorem ints_len (a : List Int) : (ints a).length = a.length := by simp [ints]

def sumD (l : List Int) : Int := (l.map digN).sum
theorem sumD_snoc (l : List Int) (x : Int) : sumD (l ++ [x]) = sumD l + digN x := by unfold sumD; simp
theorem sumD_bound (l : List Int) : 0 ≤ sumD l ∧ sumD l ≤ 3 * l.length := by
  unfold sumD
  induction l with
  | nil => simp
  | cons x r ih =>
    rw [List.map_cons, List.sum_cons, List.length_cons]
    have := digN_pos x
    have : digN x ≤ 3 := by unfold digN; split; decide; split <;> decide
    omega

theorem infoI : (Tryz.prog.info? 3).map (fun i => (i.zero, i.size, i.bytes)) = some (some (.int .i64 0), 1, 8) := by kernel_rfl

theorem newsL (w : World) (l : List Value) (T : TypeId) : ∀ (j : Nat) (u : Value), l[j]? = some u → (w.alloc (.cells l.toArray T)).cell? ((⟨w.heap.size, 0, none⟩ : Addr).add j) = some u := by
  intro j u h
  have hj : j < l.length := (List.getElem?_eq_some_iff.1 h).1
  have e : ((⟨w.heap.size, 0, none⟩ : Addr).add j) = ⟨w.heap.size, j, none⟩ := by
    unfold Addr.add
    split
    · rename_i z; rw [z]
    · simp
  rw [e]
  simp [go_sem, h]

theorem grown_alloc {w w' : World} {row : Option Nat} {o : Obj} (h : (w.alloc o).grownBy w' row) : w.grownBy w' row :=
  ⟨h.os, h.tape, h.output, Nat.le_trans (by simp) h.size, fun i hi hr => (h.block i (by simp; omega) hr).trans (((Below.refl w.heap.size w).alloc (Nat.le_refl _) o).block i hi)⟩

/-- a row of numbers that a call appends to -/
def AppRet (lo : Nat) (w : World) (v : Value) (ys : List Int) (e : Ending) (w' : World) : Prop :=
  ∃ v', e = .returned v' ∧ w'.ownsRow lo 3 1 v' ys.length (ints ys) ∧ w.grownBy w' v.ownBlock ∧ (v'.ownBlock = v.ownBlock ∨ ∃ g, v'.ownBlock = some g ∧ w.heap.size ≤ g)

theorem i64_low (n : Int) : bits .and .i64 n 255 = n % 256 := by
  have h : (BitVec.ofInt 64 255).toNat = 2 ^ 8 - 1 := by decide
  have k : (BitVec.ofInt 64 n &&& BitVec.ofInt 64 255).toNat = (n % ((2 ^ 64 : Nat) : Int)).toNat % 2 ^ 8 := by
    rw [BitVec.toNat_and, BitVec.toNat_ofInt, h, Nat.and_two_pow_sub_one_eq_mod]
  show IntKind.i64.wrap ((BitVec.ofInt 64 n &&& BitVec.ofInt 64 255).toNat : Nat) = n % 256
  rw [k, IntKind.wrap_i64]
  omega

end Go.Proofs.YtkllilehdpdbdaaGreatDoor
