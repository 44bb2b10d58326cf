/- What each outright law asks first; colours made of any number. -/
import Derived.Test.YtpbpkdhdjdaiiaaDoorTslW
import Derived.Test.YtpbpkdhdjdaiiaaDoorText
import Derived.Test.YtpbpkdhdjdaiiaaDoorTo
import Derived.Test.YtpbpkdhdjdaiiaaDoorPar
import Derived.Laws.StructEq
namespace Go.Proofs.YtpbpkdhdjdaiiaaDoor
open Go.RowKit Flt

def absI (c : Int) : Int := if c < 0 then -c else c
def rightV (c : Int) : Int := if absI c % 4 = 0 then 256 + absI c / 4 % 256 else if absI c % 4 = 1 then 1 else 16777216 + absI c / 4 % 16777216
def fullV (c : Int) : Int := 16777216 + absI c % 16777216

theorem absI_nn (c : Int) : 0 ≤ absI c := by unfold absI; split <;> omega
theorem fullV_range (c : Int) : 16777216 ≤ fullV c ∧ fullV c < 33554432 := by unfold fullV; omega
theorem rightV_range (c : Int) : rightV c = 1 ∨ (256 ≤ rightV c ∧ rightV c < 512) ∨ (16777216 ≤ rightV c ∧ rightV c < 33554432) := by
  unfold rightV
  split
  · omega
  · split <;> omega

theorem full_any (c n : Int) (hn : n = absI c) (hc : (0 < n ∧ c = -n) ∨ (0 ≤ n ∧ c = n)) (hh : n ≤ 2147483648) (hh' : c ≤ 2147483647) : Tells 31 #[.int .i32 c] (.int .i32 (fullV c)) := by
  intro w
  have H : Hid (fullV c = 16777216 + n % 16777216) := by unfold Hid fullV; rw [hn]
  clear hn
  rcases hc with ⟨g, rfl⟩ | ⟨g, rfl⟩
  all_goals
    go_enter Tryd.func31, Tryd.ntmps31
    go_wp2
    go_ret
    exact ⟨ret_int (by rw [H.out]), rfl⟩

theorem law_full (c : Int) (hl : -2147483648 ≤ c) (hh : c ≤ 2147483647) : Tells 31 #[.int .i32 c] (.int .i32 (fullV c)) :=
  full_any c (absI c) rfl (by unfold absI; split <;> omega) (by unfold absI; split <;> omega) hh

theorem right_any (c n : Int) (hn : n = absI c) (h0 : 0 ≤ n) (hc : (0 < n ∧ c = -n) ∨ c = n) (hh : n ≤ 2147483648) (hh' : c ≤ 2147483647) : Tells 30 #[.int .i32 c] (.int .i32 (rightV c)) := by
  intro w
  have three : ((n % 4 == 0) = true ∧ Hid (rightV c = 256 + n / 4 % 256)) ∨ ((n % 4 == 0) = false ∧ (n % 4 == 1) = true ∧ Hid (rightV c = 1)) ∨ ((n % 4 == 0) = false ∧ (n % 4 == 1) = false ∧ Hid (rightV c = 16777216 + n / 4 % 16777216)) := by
    by_cases a : n % 4 = 0
    · exact Or.inl ⟨by simpa using a, Lib.hid (by unfold rightV; rw [← hn, if_pos a])⟩
    · by_cases b : n % 4 = 1
      · exact Or.inr (Or.inl ⟨by simpa using a, by simpa using b, Lib.hid (by unfold rightV; rw [← hn, if_neg a, if_pos b])⟩)
      · exact Or.inr (Or.inr ⟨by simpa using a, by simpa using b, Lib.hid (by unfold rightV; rw [← hn, if_neg a, if_neg b])⟩)
  clear hn
  rcases hc with ⟨g, rfl⟩ | rfl
  all_goals
    rcases three with ⟨t1, H⟩ | ⟨t1, t2, H⟩ | ⟨t1, t2, H⟩
    all_goals
      go_enter Tryd.func30, Tryd.ntmps30
      go_wp2
      go_ret
      exact ⟨ret_int (by rw [H.out]), rfl⟩

theorem law_right (c : Int) (hl : -2147483648 ≤ c) (hh : c ≤ 2147483647) : Tells 30 #[.int .i32 c] (.int .i32 (rightV c)) :=
  right_any c (absI c) rfl (absI_nn c) (by unfold absI; split <;> omega) (by unfold absI; split <;> omega) hh

def redB : ByteArray := ⟨#[114, 101, 100]⟩
def ff0000 : ByteArray := ⟨#[35, 102, 102, 48, 48, 48, 48]⟩
def redU : ByteArray := ⟨#[82, 101, 100]⟩
theorem word_red : Word redB (some 257) := Or.inr (Or.inl ⟨1, by decide, Or.inr ⟨by decide, rfl⟩, rfl⟩)
theorem heads : ∀ n : Fin 16, (nameB n.val).data.toList.headD 0 ≠ 35 ∧ (nameB n.val).data.toList.headD 0 ≠ 82 := by decide +kernel
theorem head_ne {s t : ByteArray} (h : s.data.toList.headD 0 ≠ t.data.toList.headD 0) : s ≠ t := fun e => h (by rw [e])
theorem word_ff : Word ff0000 (some 33488896) := by
  refine Or.inr (Or.inr ⟨head_ne (by decide), fun n _ => head_ne (by rw [head_at]; decide), fun n h => head_ne (by have := (heads ⟨n, h⟩).1; exact fun e => this e.symm), ?_⟩)
  decide +kernel
theorem word_redU : Word redU none := by
  refine Or.inr (Or.inr ⟨head_ne (by decide), fun n _ => head_ne (by rw [head_at]; decide), fun n h => head_ne (by have := (heads ⟨n, h⟩).2; exact fun e => this e.symm), ?_⟩)
  decide +kernel

theorem red16 : to16V 33488896 = 257 := by decide +kernel
theorem red_text : textB 33488896 = ff0000 := by decide +kernel

set_option maxHeartbeats 4000000 in
set_option maxRecDepth 100000 in
theorem law_works (w : World) (E : Env w) : Calls Tryd.prog 29 #[] w fun e w' => e = .returned (.bool true) ∧ Below w.heap.size w w' := by
  have P1 := Lib.hid (tint_Parse redB (by decide) _ word_red)
  have P2 := Lib.hid (tint_Parse ff0000 (by decide) _ word_ff)
  have P3 := Lib.hid (tint_Parse redU (by decide) _ word_redU)
  have R1 := tint_RGB 257
  rw [show chR 257 = 170 by decide +kernel, show chG 257 = 0 by decide +kernel, show chB 257 = 0 by decide +kernel, show hasC 257 = true by decide +kernel] at R1
  have R1 := Lib.hid R1
  have T1 := tint_To16 33488896
  rw [red16] at T1
  have T1 := Lib.hid T1
  have X1 := tint_Text 33488896 (by decide) (by decide)
  rw [red_text] at X1
  have X1 := Lib.hid X1
  have E := Lib.hid E
  have ea : ∀ W, (Op.equalIn 10000 27 (.agg #[.int .u8 170, .int .u8 0, .int .u8 0]) (.agg #[.int .u8 170, .int .u8 0, .int .u8 0])).run Tryd.prog W = .ok true W := fun _ => by kernel_rfl
  have eg : Tryd.prog.eqGuardType Tryd.prog.depth 27 = false := by kernel_rfl
  go_enter Tryd.func29, Tryd.ntmps29
  go_wp2_with fail
  refine (P1.out w E.out).mono ?_; rintro e w1 ⟨rfl, b1⟩
  simp only [parEnd]
  go_wp2_with fail
  refine (P2.out w1 (E.out.of_below b1 (Nat.le_refl _))).mono ?_; rintro e w2 ⟨rfl, b2⟩
  have B2 := below_call b1 b1.size b2
  simp only [parEnd]
  go_wp2_with fail
  refine (P3.out w2 (E.out.of_below B2 (Nat.le_refl _))).mono ?_; rintro e w3 ⟨rfl, b3⟩
  have B3 := below_call B2 B2.size b3
  simp only [parEnd]
  clear b1 b2 b3
  go_wp2_with fail
  refine (R1.out _).mono ?_; rintro e w4 ⟨rfl, b4⟩
  have B4 := below_call B3 B3.size b4
  clear b4
  go_wp2_with fail
  refine (T1.out _).mono ?_; rintro e w5 ⟨rfl, b5⟩
  have B5 := below_call (B4.alloc B4.size _) (by have := B4.size; simp; omega) b5
  go_wp2_with fail
  refine (X1.out w5 (E.out.toEnvT.of_below B5 (Nat.le_refl _))).mono ?_; rintro e w6 ⟨rfl, b6⟩
  have B6 := below_call B5 B5.size b6
  go_wp2_with fail
  go_ret
  exact ⟨ret_bool (by decide +kernel), B6⟩
end Go.Proofs.YtpbpkdhdjdaiiaaDoor
