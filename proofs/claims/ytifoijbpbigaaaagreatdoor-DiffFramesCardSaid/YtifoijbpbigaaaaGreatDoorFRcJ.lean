/- All that was told is what it was; then each row of bytes is marked and gone on with: the law's fresh (walk). -/
import Derived.Test.YtifoijbpbigaaaaGreatDoorFRcG
import Derived.Test.YtifoijbpbigaaaaGreatDoorDaFI
set_option linter.unusedVariables false
set_option linter.unusedSimpArgs false
namespace Go.Proofs.YtifoijbpbigaaaaGreatDoor
section
open Go Go.RowKit Go.Sort
section
def mk1 (i : Nat) : List Value := [.int .u8 ((i : Int) % 100)]
def mk2 (i : Nat) : List Value := [.int .u8 (100 + (i : Int) % 100)]
theorem infoU8 : (Tryz.prog.info? 5).map (fun i => (i.zero, i.size, i.bytes)) = some (some (.int .u8 0), 1, 1) := by kernel_rfl
theorem app_u8 {w : World} {LO n c : Nat} {A : Option Addr} {xs : List Value} (o : w.ownsRow LO 5 1 (.slice A n c) n xs) (i : Nat) (hLO : LO <= w.heap.size) (len : n <= 1000000000000) :
  ∃ A' c' w3, (Builtin.append_ #[66, 66] 66 #[.slice A n c, .slice (some ⟨w.heap.size, 0, none⟩) 1 1]).run Tryz.prog (w.alloc (.cells #[.int .u8 (100 + (i : Int) % 100)] 5)) = .ok (.slice A' (n + 1) c') w3 /\
   w3.ownsRow LO 5 1 (.slice A' (n + 1) c') (n + 1) (xs ++ mk2 i) /\
   (((Value.slice A' (n + 1) c').ownBlock = (Value.slice A n c).ownBlock /\ (w.alloc (.cells #[.int .u8 (100 + (i : Int) % 100)] 5)).grownBy w3 (Value.slice A n c).ownBlock) \/ ((Value.slice A' (n + 1) c').ownBlock = some (w.alloc (.cells #[.int .u8 (100 + (i : Int) % 100)] 5)).heap.size /\ (w.alloc (.cells #[.int .u8 (100 + (i : Int) % 100)] 5)).grownBy w3 none)) := by
 obtain ⟨i0, hi0, hz0, hz1, hz2⟩ := info_parts infoU8
 have bu : Below w.heap.size w (w.alloc (.cells #[.int .u8 (100 + (i : Int) % 100)] 5)) := (Below.refl _ w).alloc Vf _
 obtain ⟨v', w3, r1, r2, r3⟩ := Kd (P := Tryz.prog) (w.alloc (.cells #[.int .u8 (100 + (i : Int) % 100)] 5)) LO 66 66 5 i0 (.int .u8 0) 1 1 Tryz.underlying66 hi0 hz0 hz1 hz2 rfl (by decide) _ n xs (qg o bu) ⟨w.heap.size, 0, none⟩ 1 1 (mk2 i) rfl (qL w (mk2 i) _) (by intro u hu; simp [mk2] at hu; subst hu; rfl) (by unfold maxLen; omega) (by omega) (Nat.le_trans hLO bu.size)
 obtain ⟨A', c', e⟩ := xL r2
 subst e
 exact ⟨A', c', w3, r1, r2, r3⟩
theorem app_slcB {w : World} {LO n c : Nat} {A : Option Addr} {xs : List Value} (o : w.ownsRow LO 66 1 (.slice A n c) n xs) (u : Value) (hu : u.oneCell' = true) (hLO : LO <= w.heap.size) (len : n <= 2000000000000) :
  ∃ A' c' w3, (Builtin.append_ #[75, 75] 75 #[.slice A n c, .slice (some ⟨w.heap.size, 0, none⟩) 1 1]).run Tryz.prog (w.alloc (.cells #[u] 66)) = .ok (.slice A' (n + 1) c') w3 /\
   w3.ownsRow LO 66 1 (.slice A' (n + 1) c') (n + 1) (xs ++ [u]) /\ (w.alloc (.cells #[u] 66)).grownBy w3 (Value.slice A n c).ownBlock := by
 obtain ⟨A', c', w3, h1, h2, h3, _⟩ := Jv o u hu hLO len
 exact ⟨A', c', w3, h1, h2, h3⟩
theorem put1u {w : World} {LO n c g k : Nat} {xs : List Value} (o : w.ownsRow LO 5 1 (.slice (some ⟨g, 0, none⟩) n c) n xs) (hk : k < n) (v0 : Value) (tk : xs.take (k * 1) = Rep [v0] k) :
  (∃ u, w.cell? ⟨g, k, none⟩ = some u) /\ (∃ xs', (w.setCell ⟨g, k, none⟩ v0).ownsRow LO 5 1 (.slice (some ⟨g, 0, none⟩) n c) n xs' /\ xs'.take ((k + 1) * 1) = Rep [v0] (k + 1)) /\ w.grownBy (w.setCell ⟨g, k, none⟩ v0) (some g) := by
 have xl : xs.length = n * 1 := o.1
 refine ⟨⟨_, (o.cellAt k (by omega)).trans (List.getElem?_eq_getElem (by omega))⟩, ⟨_, (o.stored k v0).1, ?_⟩, zA w ⟨g, k, none⟩ v0⟩
 rw [Nat.mul_one] at tk ⊢
 rw [List.take_succ_eq_append_getElem (by rw [List.length_set]; omega), vR, <- tk, List.getElem_set_self, List.take_set_of_le Vf]
theorem rep_b1 {w : World} {T : TypeId} {A : Option Addr} {x : Value} {n k : Nat} (h : SeesT w T A (Rep [x] n)) (hk : k < n) : ∃ g, A = some ⟨g, 0, none⟩ /\ w.cell? ⟨g, k, none⟩ = some x := by
 have ne : Rep [x] n ≠ [] := fun z => by have := congrArg List.length z; rw [xy] at this; simp at this; omega
 obtain ⟨g, cur, e, _⟩ := h ne
 obtain ⟨ad, e2, _, q⟩ := h.sees ne
 rw [e] at e2
 cases e2
 refine ⟨g, e, ?_⟩
 have r := vS [x] n k 0 hk (by simp)
 simp at r
 have := q k x r
 have e3 : (⟨g, 0, none⟩ : Addr).add k = ⟨g, k, none⟩ := by
  cases k with
  | zero => rfl
  | succ j => show (⟨g, 0 + (j + 1), none⟩ : Addr) = _; rw [Nat.zero_add]
 rw [e3] at this
 exact this
theorem rep_b2 {w : World} {T : TypeId} {A : Option Addr} {x y : Value} {n m k : Nat} (h : SeesT w T A (Rep [x] n ++ Rep [y] m)) (hk : k < n + m) : ∃ g, A = some ⟨g, 0, none⟩ /\ w.cell? ⟨g, k, none⟩ = some (if k < n then x else y) := by
 have ln : (Rep [x] n).length = n := by rw [xy]; simp
 have lm : (Rep [y] m).length = m := by rw [xy]; simp
 have ne : Rep [x] n ++ Rep [y] m ≠ [] := fun z => by have := congrArg List.length z; rw [List.length_append, ln, lm] at this; simp at this; omega
 obtain ⟨g, cur, e, _⟩ := h ne
 obtain ⟨ad, e2, _, q⟩ := h.sees ne
 rw [e] at e2
 cases e2
 refine ⟨g, e, ?_⟩
 have e3 : (⟨g, 0, none⟩ : Addr).add k = ⟨g, k, none⟩ := by
  cases k with
  | zero => rfl
  | succ j => show (⟨g, 0 + (j + 1), none⟩ : Addr) = _; rw [Nat.zero_add]
 rw [<- e3]
 refine q k _ ?_
 by_cases c : k < n
 ·rw [if_pos c, List.getElem?_append_left (by omega)]
  have r := vS [x] n k 0 c (by simp)
  simpa using r
 ·rw [if_neg c, List.getElem?_append_right (by omega), ln]
  have r := vS [y] m (k - n) 0 (by omega) (by simp)
  simpa using r
end
end
end Go.Proofs.YtifoijbpbigaaaaGreatDoor
