/- TintTells: the walk of the law. -/
import Derived.Test.YtpbpkdhdjdaiiaaDoorTslR
import Derived.Test.YtpbpkdhdjdaiiaaDoorText
import Derived.Test.YtpbpkdhdjdaiiaaDoorTo
namespace Go.Proofs.YtpbpkdhdjdaiiaaDoor
open Go.RowKit Flt

theorem ref_Right (c : Int) (hl : -2147483648 ≤ c) (hh : c ≤ 2147483647) : Tells 20 #[.int .i32 c] (.bool (rightB c)) := by
  intro w
  rcases sort_cases c with ⟨rfl, hk, hn⟩ | ⟨ha, hb, hk, hn⟩ | ⟨ha, hb, hk, hn⟩ | ⟨h1, h2, h3, hk, hn⟩
  · go_enter Tryd.func20, Tryd.ntmps20
    go_wp2_with fail
    refine (ref_sort _ hl hh _).mono ?_; rintro e w' ⟨rfl, rfl⟩; rw [hk, hn]
    go_wp2_with fail
    go_ret
    exact ⟨rfl, rfl⟩
  · have H : Hid (rightB c = true) := Lib.hid (by unfold rightB; rw [decide_eq_true_iff]; omega)
    go_enter Tryd.func20, Tryd.ntmps20
    go_wp2_with fail
    refine (ref_sort _ hl hh _).mono ?_; rintro e w' ⟨rfl, rfl⟩; rw [hk, hn]
    go_wp2_with fail
    go_ret
    exact ⟨ret_bool (by rw [H.out]), rfl⟩
  · have H : Hid (rightB c = true) := Lib.hid (by unfold rightB; rw [decide_eq_true_iff]; omega)
    go_enter Tryd.func20, Tryd.ntmps20
    go_wp2_with fail
    refine (ref_sort _ hl hh _).mono ?_; rintro e w' ⟨rfl, rfl⟩; rw [hk, hn]
    go_wp2_with fail
    go_ret
    exact ⟨ret_bool (by rw [H.out]), rfl⟩
  · by_cases z : c = 0
    · subst z
      go_enter Tryd.func20, Tryd.ntmps20
      go_wp2_with fail
      refine (ref_sort _ hl hh _).mono ?_; rintro e w' ⟨rfl, rfl⟩; rw [hk, hn]
      go_wp2_with fail
      go_ret
      exact ⟨rfl, rfl⟩
    · have H : Hid (rightB c = false) := Lib.hid (by unfold rightB; rw [decide_eq_false_iff_not]; omega)
      have zb : (c == 0) = false := by simpa using z
      clear h1 h2 h3 z
      go_enter Tryd.func20, Tryd.ntmps20
      go_wp2_with fail
      refine (ref_sort _ hl hh _).mono ?_; rintro e w' ⟨rfl, rfl⟩; rw [hk, hn]
      go_wp2_with fail
      go_ret
      exact ⟨ret_bool (by rw [H.out]), rfl⟩

theorem hue_fin (c : Int) : Fnt (hueC c) ∧ Fnt (litC c) := by
  obtain ⟨rr, gr, br⟩ := ch_range c
  obtain ⟨m1, m2, m3, m4, m5, m6, m7, m8⟩ := mx_mn (chR c) (chG c) (chB c)
  constructor
  · unfold hueC
    split
    · rename_i k
      have lt : mn (chR c) (chG c) (chB c) < mx (chR c) (chG c) (chB c) := by
        have f := k.2
        unfold flat at f
        rw [beq_eq_false_iff_ne] at f
        omega
      exact (hue_ok _ _ _ rr gr br lt).2.2.2.1
    · exact fin0
  · unfold litC
    split
    · exact (tsl_ok _ _ (by omega) (by omega) (by omega)).fl
    · exact fin0

theorem fne {x y : Nat} (hx : Fnt x) (hy : Fnt y) (h : val x = val y) : (FloatKind.f64.format.order x y != some .eq) = false := by
  have o := feq hx hy
  rw [decide_eq_true h] at o
  unfold bne
  rw [o]; rfl

namespace tintTells
set_option maxHeartbeats 4000000 in
theorem tintTells_walk (c : Int) (hwf : (Lit.int .i32 c).wf = true) (w : World) (E : EnvT w) :
    Calls Tryd.prog 3 #[.int .i32 c] w fun e w' => e = .returned (.bool true) ∧ Below w.heap.size w w' := by
  obtain ⟨hl, hh⟩ : -2147483648 ≤ c ∧ c ≤ 2147483647 := by have := bounds_i32 hwf; omega
  obtain ⟨⟨r0, r1⟩, ⟨g0, g1⟩, ⟨b0, b1⟩⟩ := ch_range c
  obtain ⟨s1, s2, s3⟩ := sat_same c
  obtain ⟨h1, h2⟩ := hue_fin c
  have k1 := fne h1 h1 rfl
  have k2 := fne s1 s2 s3
  have k3 := fne h2 h2 rfl
  have k4 := fne (light_ok c).1 (light_ok c).1 rfl
  have R1 := Lib.hid (ref_RGB c hl hh)
  have R2 := Lib.hid (tint_RGB c)
  have R3 := Lib.hid (tint_ToHSL c)
  have R4 := Lib.hid (ref_ToHSL c hl hh)
  have R5 := Lib.hid (tint_Light c)
  have R6 := Lib.hid (ref_Light c hl hh)
  have R7 := Lib.hid (tint_Right c)
  have R8 := Lib.hid (ref_Right c hl hh)
  have R9 := Lib.hid (tint_Text c hl hh)
  have R10 := Lib.hid (ref_Text c hl hh)
  have R11 := Lib.hid (tint_To256 c)
  have R12 := Lib.hid (ref_To256 c hl hh)
  have R13 := Lib.hid (tint_To16 c)
  have R14 := Lib.hid (ref_To16 c hl hh)
  have E := Lib.hid E
  clear s1 s2 s3 h1 h2 hl hh hwf
  go_enter Tryd.func3, Tryd.ntmps3
  go_wp2_with fail
  refine (R1.out _).mono ?_; rintro e w1 ⟨rfl, b1⟩
  have hz1 := b1.size
  go_wp2_with fail
  refine (R2.out _).mono ?_; rintro e w2 ⟨rfl, b2⟩
  obtain ⟨hcl2, hfz2, hz2⟩ := bcell b2
  have B2 : Below w.heap.size w w2 := below_call (b1.alloc hz1 _) (by simp; omega) b2
  have zz : w1.heap.size < w2.heap.size := by simp at hz2; omega
  have q0 : w2.cell? ⟨w1.heap.size, 0, none⟩ = some (.int .i64 (chR c)) := by rw [hcl2 _ _ (by simp)]; simp
  have q1 : w2.cell? ⟨w1.heap.size, 1, none⟩ = some (.int .i64 (chG c)) := by rw [hcl2 _ _ (by simp)]; simp
  have q2 : w2.cell? ⟨w1.heap.size, 2, none⟩ = some (.int .i64 (chB c)) := by rw [hcl2 _ _ (by simp)]; simp
  go_wp2_with fail
  refine (R3.out _).mono ?_; rintro e w3 ⟨rfl, b3⟩
  have B3 : Below w.heap.size w w3 := below_call (B2.alloc B2.size _) (by have := B2.size; simp; omega) b3
  clear hz1 hcl2 hfz2 hz2 b1 b2 b3 q0 q1 q2 zz
  go_wp2_with fail
  refine (R4.out _).mono ?_; rintro e w4 ⟨rfl, b4⟩
  have B4 := below_call B3 B3.size b4
  go_wp2_with fail
  refine (R5.out _).mono ?_; rintro e w5 ⟨rfl, b5⟩
  have B5 := below_call B4 B4.size b5
  go_wp2_with fail
  refine (R6.out _).mono ?_; rintro e w6 ⟨rfl, b6⟩
  have B6 := below_call B5 B5.size b6
  go_wp2_with fail
  refine (R7.out _).mono ?_; rintro e w' ⟨rfl, rfl⟩
  go_wp2_with fail
  refine (R8.out _).mono ?_; rintro e w' ⟨rfl, rfl⟩
  go_wp2_with fail
  refine (R9.out w6 (E.out.of_below B6 (Nat.le_refl _))).mono ?_; rintro e w7 ⟨rfl, b7⟩
  have B7 := below_call B6 B6.size b7
  go_wp2_with fail
  refine (R10.out _).mono ?_; rintro e w8 ⟨rfl, b8⟩
  have B8 := below_call B7 B7.size b8
  go_wp2_with fail
  refine (R11.out _).mono ?_; rintro e w9 ⟨rfl, b9⟩
  have B9 := below_call B8 B8.size b9
  go_wp2_with fail
  refine (R12.out _).mono ?_; rintro e w10 ⟨rfl, b10⟩
  have B10 := below_call B9 B9.size b10
  go_wp2_with fail
  refine (R13.out _).mono ?_; rintro e w11 ⟨rfl, b11⟩
  have B11 := below_call B10 B10.size b11
  go_wp2_with fail
  refine (R14.out _).mono ?_; rintro e w12 ⟨rfl, b12⟩
  have B12 := below_call B11 B11.size b12
  go_wp2_with fail
  go_ret
  exact ⟨rfl, B12⟩
end tintTells
end Go.Proofs.YtpbpkdhdjdaiiaaDoor
