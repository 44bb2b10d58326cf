/- The words of right colours are read back (plain). -/
import Derived.Test.YthcdcbibbfdjmaaDoorPar
namespace Go.Proofs.YthcdcbibbfdjmaaDoor
open Go.RowKit
set_option linter.unusedVariables false

theorem heads : ∀ n : Fin 16, (nameB n.val).data.toList.headD 0 ≠ 35 ∧ (nameB n.val).data.toList.headD 0 ≠ 82 := by decide +kernel
theorem head_ne {s t : ByteArray} (h : s.data.toList.headD 0 ≠ t.data.toList.headD 0) : s ≠ t := fun e => h (by rw [e])
theorem hexv_dgt : ∀ d : Fin 16, hexv (dgt d.val).toNat = some d.val := by decide +kernel
theorem hexL_digits (N : Nat) : ∀ j a, hexL a (digL 16 N j) = some (a * 16 ^ j + N % 16 ^ j) := by
  intro j
  induction j with
  | zero => intro a; simp [digL, hexL, Nat.mod_one]
  | succ j ih =>
    intro a
    have h := hexv_dgt ⟨N / 16 ^ j % 16, Nat.mod_lt _ (by decide)⟩
    simp only at h
    rw [digL, hexL, h]
    simp only
    rw [ih, Nat.pow_succ, Nat.mod_mul]
    congr 1
    rw [Nat.add_mul, Nat.mul_assoc, Nat.mul_comm 16 (16 ^ j), Nat.mul_comm (N / 16 ^ j % 16) (16 ^ j)]
    omega

theorem word_text (x : Int) (h : x = 1 ∨ (256 ≤ x ∧ x < 512) ∨ (16777216 ≤ x ∧ x < 33554432)) : Word (textB x) (some x) := by
  rcases h with rfl | ⟨h0, h1⟩ | ⟨h0, h1⟩
  · exact Or.inl ⟨rfl, rfl⟩
  · have e : some x = some (256 + (((x - 256).toNat : Nat) : Int)) := by congr 1; omega
    rw [e]
    refine Or.inr (Or.inl ⟨(x - 256).toNat, by omega, ?_, rfl⟩)
    by_cases c : x < 272
    · exact Or.inr ⟨by omega, by unfold textB; rw [if_neg (by omega), if_pos ⟨h0, c⟩]⟩
    · exact Or.inl (by unfold textB atB; rw [if_neg (by omega), if_neg (by omega), if_pos (by omega)])
  · have e : textB x = ⟨(35 :: digL 16 (x - 16777216).toNat 6).toArray⟩ := by unfold textB; rw [if_neg (by omega), if_neg (by omega), if_neg (by omega), if_pos ⟨h0, h1⟩]
    have hd : (textB x).data.toList.headD 0 = 35 := by rw [e]; rfl
    refine Or.inr (Or.inr ⟨head_ne (by rw [hd]; decide), fun n _ => head_ne (by rw [hd, head_at]; decide), fun n h => head_ne (by rw [hd]; have := (heads ⟨n, h⟩).1; exact fun e => this e.symm), ?_⟩)
    unfold hexP
    rw [if_pos ⟨by rw [e, mk_size]; simp [digL_len], hd⟩, e]
    have t : (⟨(35 :: digL 16 (x - 16777216).toNat 6).toArray⟩ : ByteArray).data.toList.tail = digL 16 (x - 16777216).toNat 6 := rfl
    rw [t, hexL_digits]
    simp only [Option.map, Nat.zero_mul, Nat.zero_add]
    congr 1
    have : (x - 16777216).toNat % 16 ^ 6 = (x - 16777216).toNat := Nat.mod_eq_of_lt (by omega)
    rw [this]
    omega

theorem textB_inj (x y : Int) (hx : x = 1 ∨ (256 ≤ x ∧ x < 512) ∨ (16777216 ≤ x ∧ x < 33554432)) (hy : y = 1 ∨ (256 ≤ y ∧ y < 512) ∨ (16777216 ≤ y ∧ y < 33554432)) (h : textB x = textB y) : x = y := by
  have a := word_text x hx
  rw [h] at a
  exact Option.some.inj (a.uniq (word_text y hy))

theorem text_ne (x : Int) (h : x = 1 ∨ (256 ≤ x ∧ x < 512) ∨ (16777216 ≤ x ∧ x < 33554432)) : textB x ≠ ⟨#[]⟩ := by
  intro e
  have a := word_text x h
  rw [e] at a
  have b : Word ⟨#[]⟩ none := by
    refine Or.inr (Or.inr ⟨by decide, fun n _ => head_ne (by rw [head_at]; decide), fun n h => ?_, by decide +kernel⟩)
    exact (show ∀ n : Fin 16, (⟨#[]⟩ : ByteArray) ≠ nameB n.val by decide +kernel) ⟨n, h⟩
  cases a.uniq b

theorem text_size (x : Int) : (textB x).size ≤ 16 := by
  unfold textB
  have nm : ∀ n : Fin 16, (nameB n.val).size ≤ 16 := by decide +kernel
  split
  · decide
  · split
    · exact nm ⟨(x - 256).toNat, by omega⟩
    · split
      · rw [mk_size]; simp only [List.length_cons, digL_len]; unfold nd; split <;> (try split) <;> omega
      · split
        · rw [mk_size]; simp only [List.length_cons, digL_len]; omega
        · decide

end Go.Proofs.YthcdcbibbfdjmaaDoor
