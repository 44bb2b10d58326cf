/- TintBack: the words of right colours are read back (plain), and the walk of the law. -/
import Derived.Test.YtpbpkdhdjdaiiaaDoorWorks
namespace Go.Proofs.YtpbpkdhdjdaiiaaDoor
open Go.RowKit Flt

theorem hexv_dgt : ∀ d : Fin 16, hexv (dgt d.val).toNat = some d.val := by decide +kernel
theorem hexL_digits (N : Nat) : ∀ j a, hexL a (digL 16 N j) = some (a * 16 ^ j + N % 16 ^ j) := by
  intro j
  induction j with
  | zero => intro a; simp [digL, hexL, Nat.mod_one]
  | succ j ih =>
    intro a
    have h := hexv_dgt ⟨N / 16 ^ j % 16, Nat.mod_lt _ (by decide)⟩
    simp only at h
    rw [digL, hexL, h]
    simp only
    rw [ih, Nat.pow_succ, Nat.mod_mul]
    congr 1
    rw [Nat.add_mul, Nat.mul_assoc, Nat.mul_comm 16 (16 ^ j), Nat.mul_comm (N / 16 ^ j % 16) (16 ^ j)]
    omega

theorem word_text (x : Int) (h : x = 1 ∨ (256 ≤ x ∧ x < 512) ∨ (16777216 ≤ x ∧ x < 33554432)) : Word (textB x) (some x) := by
  rcases h with rfl | ⟨h0, h1⟩ | ⟨h0, h1⟩
  · exact Or.inl ⟨rfl, rfl⟩
  · have e : some x = some (256 + (((x - 256).toNat : Nat) : Int)) := by congr 1; omega
    rw [e]
    refine Or.inr (Or.inl ⟨(x - 256).toNat, by omega, ?_, rfl⟩)
    by_cases c : x < 272
    · exact Or.inr ⟨by omega, by unfold textB; rw [if_neg (by omega), if_pos ⟨h0, c⟩]⟩
    · exact Or.inl (by unfold textB atB; rw [if_neg (by omega), if_neg (by omega), if_pos (by omega)])
  · have e : textB x = ⟨(35 :: digL 16 (x - 16777216).toNat 6).toArray⟩ := by unfold textB; rw [if_neg (by omega), if_neg (by omega), if_neg (by omega), if_pos ⟨h0, h1⟩]
    have hd : (textB x).data.toList.headD 0 = 35 := by rw [e]; rfl
    refine Or.inr (Or.inr ⟨head_ne (by rw [hd]; decide), fun n _ => head_ne (by rw [hd, head_at]; decide), fun n h => head_ne (by rw [hd]; have := (heads ⟨n, h⟩).1; exact fun e => this e.symm), ?_⟩)
    unfold hexP
    rw [if_pos ⟨by rw [e, mk_size]; simp [digL_len], hd⟩, e]
    have t : (⟨(35 :: digL 16 (x - 16777216).toNat 6).toArray⟩ : ByteArray).data.toList.tail = digL 16 (x - 16777216).toNat 6 := rfl
    rw [t, hexL_digits]
    simp only [Option.map, Nat.zero_mul, Nat.zero_add]
    congr 1
    have : (x - 16777216).toNat % 16 ^ 6 = (x - 16777216).toNat := Nat.mod_eq_of_lt (by omega)
    rw [this]
    omega

theorem textB_inj (x y : Int) (hx : x = 1 ∨ (256 ≤ x ∧ x < 512) ∨ (16777216 ≤ x ∧ x < 33554432)) (hy : y = 1 ∨ (256 ≤ y ∧ y < 512) ∨ (16777216 ≤ y ∧ y < 33554432)) (h : textB x = textB y) : x = y := by
  have a := word_text x hx
  rw [h] at a
  exact Option.some.inj (a.uniq (word_text y hy))

theorem text_ne (x : Int) (h : x = 1 ∨ (256 ≤ x ∧ x < 512) ∨ (16777216 ≤ x ∧ x < 33554432)) : textB x ≠ ⟨#[]⟩ := by
  intro e
  have a := word_text x h
  rw [e] at a
  have b : Word ⟨#[]⟩ none := by
    refine Or.inr (Or.inr ⟨by decide, fun n _ => head_ne (by rw [head_at]; decide), fun n h => ?_, by decide +kernel⟩)
    exact (show ∀ n : Fin 16, (⟨#[]⟩ : ByteArray) ≠ nameB n.val by decide +kernel) ⟨n, h⟩
  cases a.uniq b

theorem text_size (x : Int) : (textB x).size ≤ 16 := by
  unfold textB
  have nm : ∀ n : Fin 16, (nameB n.val).size ≤ 16 := by decide +kernel
  split
  · decide
  · split
    · exact nm ⟨(x - 256).toNat, by omega⟩
    · split
      · rw [mk_size]; simp only [List.length_cons, digL_len]; unfold nd; split <;> (try split) <;> omega
      · split
        · rw [mk_size]; simp only [List.length_cons, digL_len]; omega
        · decide

namespace tintBack
set_option maxHeartbeats 4000000 in
set_option maxRecDepth 100000 in
theorem tintBack_walk (c d : Int) (hc : (Lit.int .i32 c).wf = true) (hd : (Lit.int .i32 d).wf = true) (w : World) (E : Env w) :
    Calls Tryd.prog 5 #[.int .i32 c, .int .i32 d] w fun e w' => e = .returned (.bool true) ∧ Below w.heap.size w w' := by
  obtain ⟨hl, hh⟩ : -2147483648 ≤ c ∧ c ≤ 2147483647 := by have := bounds_i32 hc; omega
  obtain ⟨gl, gh⟩ : -2147483648 ≤ d ∧ d ≤ 2147483647 := by have := bounds_i32 hd; omega
  have Rx := rightV_range c
  have Ry := rightV_range d
  have W0 := Lib.hid (law_works w E)
  have R1 := Lib.hid (law_right c hl hh)
  have R2 := Lib.hid (law_right d gl gh)
  have rb : rightB (rightV c) = true := by unfold rightB; rw [decide_eq_true_iff]; omega
  have T1 := Lib.hid (tint_Text (rightV c) (by omega) (by omega))
  have T2 := Lib.hid (tint_Text (rightV d) (by omega) (by omega))
  have P1 := Lib.hid (tint_Parse (textB (rightV c)) (by have := text_size (rightV c); omega) _ (word_text _ Rx))
  have Q1 := tint_Right (rightV c)
  rw [rb] at Q1
  have Q1 := Lib.hid Q1
  have inj := textB_inj _ _ Rx Ry
  have ne := text_ne _ Rx
  have E := Lib.hid E
  have RX := Lib.hid Rx
  clear hc hd hl hh gl gh Ry rb Rx
  generalize hX : rightV c = x at *
  generalize hY : rightV d = y at *
  clear hX hY
  generalize hS : textB x = S at *
  have e1 : (S.toList == []) = false := by rw [seq_list, decide_eq_false_iff_not]; exact ne
  have e2 : S.toList.isEmpty = false := by
    cases h : S.toList with
    | nil => rw [h] at e1; cases e1
    | cons a l => rfl
  have e3 : S.toList ≠ [] := by intro h; rw [h] at e1; cases e1
  clear ne
  by_cases hxy : x = y
  · subst hxy
    have T2 := T2.out
    rw [hS] at T2
    have T2 := Lib.hid T2
    clear inj hS
    go_enter Tryd.func5, Tryd.ntmps5
    go_wp2_with fail
    refine W0.out.mono ?_; rintro e w1 ⟨rfl, b1⟩
    go_wp2_with fail
    refine (R1.out _).mono ?_; rintro e w' ⟨rfl, rfl⟩
    go_wp2_with fail
    refine (R2.out _).mono ?_; rintro e w' ⟨rfl, rfl⟩
    go_wp2_with fail
    refine (T1.out w1 (E.out.toEnvT.of_below b1 (Nat.le_refl _))).mono ?_; rintro e w2 ⟨rfl, b2⟩
    have B2 := below_call b1 b1.size b2
    go_wp2_with fail
    refine (P1.out w2 (E.out.of_below B2 (Nat.le_refl _))).mono ?_; rintro e w3 ⟨rfl, b3⟩
    have B3 := below_call B2 B2.size b3
    simp only [parEnd]
    clear b1 b2 b3
    go_wp2_with fail
    refine (Q1.out _).mono ?_; rintro e w' ⟨rfl, rfl⟩
    go_wp2_with fail
    refine (T2.out w3 (E.out.toEnvT.of_below B3 (Nat.le_refl _))).mono ?_; rintro e w4 ⟨rfl, b4⟩
    have B4 := below_call B3 B3.size b4
    go_wp2_with fail
    go_ret
    exact ⟨ret_bool (by first | rfl | simp), B4⟩
  · have i1 : (x == y) = false := by simpa using hxy
    have i2 : (S.toList == (textB y).toList) = false := by rw [seq_bytes, decide_eq_false_iff_not]; exact fun h => hxy (inj h)
    clear inj hxy hS
    generalize textB y = T at *
    go_enter Tryd.func5, Tryd.ntmps5
    go_wp2_with fail
    refine W0.out.mono ?_; rintro e w1 ⟨rfl, b1⟩
    go_wp2_with fail
    refine (R1.out _).mono ?_; rintro e w' ⟨rfl, rfl⟩
    go_wp2_with fail
    refine (R2.out _).mono ?_; rintro e w' ⟨rfl, rfl⟩
    go_wp2_with fail
    refine (T1.out w1 (E.out.toEnvT.of_below b1 (Nat.le_refl _))).mono ?_; rintro e w2 ⟨rfl, b2⟩
    have B2 := below_call b1 b1.size b2
    go_wp2_with fail
    refine (P1.out w2 (E.out.of_below B2 (Nat.le_refl _))).mono ?_; rintro e w3 ⟨rfl, b3⟩
    have B3 := below_call B2 B2.size b3
    simp only [parEnd]
    clear b1 b2 b3
    go_wp2_with fail
    refine (Q1.out _).mono ?_; rintro e w' ⟨rfl, rfl⟩
    go_wp2_with fail
    refine (T2.out w3 (E.out.toEnvT.of_below B3 (Nat.le_refl _))).mono ?_; rintro e w4 ⟨rfl, b4⟩
    have B4 := below_call B3 B3.size b4
    go_wp2_with fail
    go_ret
    exact ⟨ret_bool (by first | rfl | simp), B4⟩
end tintBack
end Go.Proofs.YtpbpkdhdjdaiiaaDoor
