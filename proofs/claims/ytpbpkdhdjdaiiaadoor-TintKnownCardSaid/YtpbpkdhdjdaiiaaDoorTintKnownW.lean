/- TintKnown: the walk of the law (closed). -/
import Derived.Test.YtpbpkdhdjdaiiaaDoorTintRampsW
import Derived.Test.YtpbpkdhdjdaiiaaDoorHslW
namespace Go.Proofs.YtpbpkdhdjdaiiaaDoor
open Go.RowKit Flt
set_option linter.unusedVariables false

theorem kn1 : mixV 16777216 33554431 4602678819172646912 = 25198720 := by decide +kernel
theorem kn2 : rampL 3 [16777216, 33554431] = [16777216, 25198720, 33554431] := by decide +kernel
theorem kn3 : textB 25198720 = ⟨#[35, 56, 48, 56, 48, 56, 48]⟩ := by decide +kernel
theorem kn4 : to256V 17303560 = 488 := by decide +kernel
theorem kn5 : to16V 272 = 256 := by decide +kernel
theorem kn6 : hslV 13861516703092965376 4607182418800017408 4602678819172646912 = 16777471 := by decide +kernel
theorem kn7 : mixV 1 257 4600877379321698714 = 1 := by decide +kernel
theorem kn8 : textB 271 = ⟨#[98, 114, 105, 103, 104, 116, 45, 119, 104, 105, 116, 101]⟩ := by decide +kernel
theorem kn9 : rightB 2 = false := by decide +kernel

namespace tintKnown
set_option maxHeartbeats 4000000 in
set_option maxRecDepth 100000 in
theorem tintKnown_walk (w : World) (E : Env w) : Calls Tryd.prog 12 #[] w fun e w' => e = .returned (.bool true) ∧ Below w.heap.size w w' := by
  have M1 := tint_Mix 16777216 33554431 4602678819172646912
  rw [kn1] at M1
  have R1 := fun W h => tint_Ramp 3 (some ⟨W, 0, none⟩) 2 [16777216, 33554431] (by decide) h
  rw [kn2] at R1
  have T1 := tint_Text 25198720 (by decide) (by decide)
  rw [kn3] at T1
  have P1 := tint_To256 17303560
  rw [kn4] at P1
  have P2 := tint_To16 272
  rw [kn5] at P2
  have H1 := tint_FromHSL 13861516703092965376 4607182418800017408 4602678819172646912 (by decide)
  rw [kn6] at H1
  have M2 := tint_Mix 1 257 4600877379321698714
  rw [kn7] at M2
  have T2 := tint_Text 271 (by decide) (by decide)
  rw [kn8] at T2
  have Q1 := tint_Right 2
  rw [kn9] at Q1
  have M1 := Lib.hid M1; have R1 := Lib.hid R1; have T1 := Lib.hid T1; have P1 := Lib.hid P1; have P2 := Lib.hid P2; have H1 := Lib.hid H1; have M2 := Lib.hid M2; have T2 := Lib.hid T2; have Q1 := Lib.hid Q1
  have E := Lib.hid E
  go_enter Tryd.func12, Tryd.ntmps12
  go_wp2_with fail
  refine (M1.out _).mono ?_; rintro e w1 ⟨rfl, b1⟩
  have hz1 := b1.size
  go_wp2_with fail
  refine (R1.out _ _ ?_).mono ?_
  · intro _
    refine ⟨_, rfl, by simp, fun j u hu => ?_⟩
    match j, hu with
    | 0, hu => simp at hu; subst hu; simp [Addr.add]
    | 1, hu => simp at hu; subst hu; simp [Addr.add]
    | (j + 2), hu => simp at hu
  rintro e w2 ⟨P, rfl, _, ho, b2⟩
  have B2 : Below w.heap.size w w2 := below_call (b1.alloc hz1 _) (by simp; omega) b2
  obtain ⟨_, fo⟩ := own_form ho
  rcases fo with ⟨_, z⟩ | ⟨g, c, eo, _⟩
  · cases z
  cases eo
  have c1 : w2.cell? ⟨g, 1, none⟩ = some (.int .i32 25198720) := by rw [ho.cellAt 1 (by decide)]; rfl
  clear ho b1 b2
  go_wp2_with fail
  refine (T1.out w2 (E.out.toEnvT.of_below B2 (Nat.le_refl _))).mono ?_; rintro e w3 ⟨rfl, b3⟩
  have B3 := below_call B2 B2.size b3
  clear c1
  go_wp2_with fail
  refine (law_works w3 (E.out.of_below B3 (Nat.le_refl _))).mono ?_; rintro e w4 ⟨rfl, b4⟩
  have B4 := below_call B3 B3.size b4
  go_wp2_with fail
  refine (P1.out _).mono ?_; rintro e w5 ⟨rfl, b5⟩
  have B5 := below_call B4 B4.size b5
  go_wp2_with fail
  refine (P2.out _).mono ?_; rintro e w6 ⟨rfl, b6⟩
  have B6 := below_call B5 B5.size b6
  go_wp2_with fail
  refine (H1.out _).mono ?_; rintro e w7 ⟨rfl, b7⟩
  have B7 := below_call B6 B6.size b7
  go_wp2_with fail
  refine (M2.out _).mono ?_; rintro e w8 ⟨rfl, b8⟩
  have B8 := below_call B7 B7.size b8
  go_wp2_with fail
  refine (T2.out w8 (E.out.toEnvT.of_below B8 (Nat.le_refl _))).mono ?_; rintro e w9 ⟨rfl, b9⟩
  have B9 := below_call B8 B8.size b9
  go_wp2_with fail
  refine (Q1.out _).mono ?_; rintro e w' ⟨rfl, rfl⟩
  go_wp2_with fail
  go_ret
  exact ⟨rfl, B9⟩
end tintKnown
end Go.Proofs.YtpbpkdhdjdaiiaaDoor
