/- The numbers that make one style of another, the reference: anew, differing, Params. -/
import Derived.Test.YthcdcbibbfdjmaaDoorStyEd
import Derived.Test.YthcdcbibbfdjmaaDoorStyQr
namespace Go.Proofs.YthcdcbibbfdjmaaDoor
open Go Go.RowKit Go.Sort
set_option linter.unusedVariables false

set_option maxHeartbeats 8000000 in
set_option maxRecDepth 100000 in
theorem ref_anew (b : Sty) (hf : inSty b.fg) (hb : inSty b.bg) (w : World) : Calls Tryd.prog 38 #[styV b.fg b.bg b.at_] w (IntRet w (twoL b)) := by
  have K1 := Lib.hid (fun W => ref_colored b.fg 0 hf (Or.inl rfl) W)
  have K2 := Lib.hid (fun W => ref_colored b.bg 10 hb (Or.inr rfl) W)
  have LF := Lib.hid (col_len b.fg 30)
  have LB := Lib.hid (col_len b.bg 40)
  have e30 : (30 : Int) + 0 = 30 := rfl
  have e40 : (30 : Int) + 10 = 40 := rfl
  rw [e30] at K1
  rw [e40] at K2
  have TW : Hid (twoL b = [0] ++ setL b.at_ ++ (if b.fg = 0 then [] else colL b.fg 30) ++ (if b.bg = 0 then [] else colL b.bg 40)) := Lib.hid rfl
  clear hf hb e30 e40
  obtain ⟨bf, bb, ba⟩ := b
  simp only at K1 K2 LF LB TW ⊢
  generalize colL bf 30 = CF at *
  generalize colL bb 40 = CB at *
  generalize twoL ⟨bf, bb, ba⟩ = TWO at *
  go_enter Tryd.func38, Tryd.ntmps38
  go_wp2_with fail
  refine (ref_sets6 _).mono ?_; rintro e w1 ⟨rfl, hw1⟩
  obtain ⟨W0, hW0⟩ : ∃ W0, W0 = w.alloc (.cells #[.int .i32 bf, .int .i32 bb, .int .u8 (bI ba)] 24) := ⟨_, rfl⟩
  have k0 : C3 W0 w.heap.size (.int .i32 bf) (.int .i32 bb) (.int .u8 (bI ba)) := by subst hW0; constructor <;> simp [go_sem]
  have HW : Hid (Below w.heap.size w W0) := Lib.hid (by subst hW0; go_grown)
  have sz : W0.heap.size = w.heap.size + 1 := by subst hW0; simp
  have P0 : Pair W0 w1 (.slice (some ⟨w.heap.size + 1, 0, none⟩) 1 1) (.slice (some ⟨w.heap.size + 1 + 1, 0, none⟩) 8 8) ([0] ++ stK ba 0) setsL := by
    subst hw1
    rw [← hW0]
    have o1 := (own_new W0 [0] (by decide)).alloc (.cells (ints setsL).toArray 3)
    have o2 := own_new (W0.alloc (.cells (ints [0]).toArray 3)) setsL (by decide)
    have s2 : (W0.alloc (.cells (ints [0]).toArray 3)).heap.size = w.heap.size + 1 + 1 := by simp [sz]
    rw [sz] at o1
    rw [s2] at o2
    refine ⟨?_, own_lower o2 (by omega), fun g hg1 hg2 => ?_, ?_⟩
    · rw [sz]; exact o1
    · simp [Value.ownBlock] at hg1 hg2; omega
    · exact ((Below.refl _ _).alloc (Nat.le_refl _) _).alloc (by simp) _
  have l0 : w.heap.size < W0.heap.size := by omega
  have PH := Lib.hid P0
  obtain ⟨V4, hV4⟩ : ∃ V4, V4 = (Value.slice (some ⟨w.heap.size + 1 + 1, 0, none⟩) 8 8) := ⟨_, rfl⟩
  rw [← hV4] at PH
  have HV4 := Lib.hid hV4
  clear hw1 hW0 sz P0
  go_upto_region 3 with fail
  go_wp2_with fail
  rw [show w.heap.size + 1 + 1 = w.heap.size + 1 + 1 from rfl]
  go_loopw [5, 3] (fun s5 s3 wr => ∃ k : Nat, k ≤ 8 ∧ s5 = .int .i64 k ∧ Hid (Pair W0 wr s3 V4 ([0] ++ stK ba k) setsL)) (fun s5 _ _ => 8 - (intOf s5).toNat)
  case atStart => exact ⟨0, by omega, rfl, PH⟩
  case round =>
    obtain ⟨k, k8, rfl, P⟩ := hrel
    by_cases lt : k < 8
    · have q := k0.keep P.out.be l0
      obtain ⟨c0, c1, c2, f0, f1, f2⟩ := q
      have NX := Lib.hid (stK_next ba k)
      have lb := stK_len ba k
      have BT := ref_bit6 ba k lt
      have ho : wr.cell? ⟨w.heap.size + 1 + 1, k, none⟩ = some (.int .i64 (onN k)) := by
        have := P.out.o2
        rw [HV4.out] at this
        rw [this.cellAt k (by simp; exact lt)]
        exact (sets_at k lt).1
      cases e : ba.getLsbD k
      all_goals
        rw [e] at BT
        have NX := NX.out
        rw [e] at NX
        simp only [Bool.false_eq_true, if_false, if_true] at NX
        have NX := Lib.hid NX
        have BT := Lib.hid BT
        clear e
      · go_wp2_with fail
        refine (BT.out _).mono ?_; rintro e' w' ⟨rfl, rfl⟩
        go_wp2_with fail
        go_roundw
        case rel => exact ⟨k + 1, by omega, by go_num, Lib.hid (by rw [NX.out]; exact P.out)⟩
        case measure => simp [intOf]; omega
      · go_wp2_with fail
        refine (BT.out _).mono ?_; rintro e' w' ⟨rfl, rfl⟩
        go_wp2_with (at_builtin; refine wp_app1 P.out (.tmp 20) (.tmp 25) (onN k) (by rw [List.length_append]; simp; omega) rfl rfl rfl rfl ?_; intro v' w' P4)
        go_roundw
        case rel => exact ⟨k + 1, by omega, by go_num, Lib.hid (by rw [NX.out, ← List.append_assoc]; exact P4.out)⟩
        case measure => simp [intOf]; omega
    · have ek : k = 8 := by omega
      subst ek
      rw [stK_all] at P
      have L8 := (set_mask ba).2.2
      obtain ⟨R2, hR2⟩ : ∃ R2, R2 = [0] ++ setL ba := ⟨_, rfl⟩
      rw [← hR2] at P TW
      have R2L : R2.length ≤ 9 := by rw [hR2, List.length_append]; simp; omega
      have q := k0.keep P.out.be l0
      obtain ⟨c0, c1, c2, f0, f1, f2⟩ := q
      clear hR2 L8
      go_upto_if 29 with fail
      go_cut [3, 7] from 29 to 35 (fun s3 s7 wx => Hid (Pair W0 wx s3 V4 (R2 ++ if bf = 0 then [] else CF) setsL))
      case first =>
        by_cases z : bf = 0
        · have g : (bf != 0) = false := by rw [z]; rfl
          have E : Hid ((if bf = 0 then [] else CF) = []) := Lib.hid (if_pos z)
          clear z
          go_wp2_with fail
          go_meet
          rw [E.out, List.append_nil]
          exact P
        · have g : (bf != 0) = true := by rw [bne_iff_ne]; exact z
          have E : Hid ((if bf = 0 then [] else CF) = CF) := Lib.hid (if_neg z)
          clear z
          go_wp2_with fail
          refine (K1.out _).mono ?_; rintro e' w3 ⟨g3, rfl, S3, _, hb3⟩
          have P3 := Lib.hid (P.out.call hb3)
          have S3 := Lib.hid S3
          have lf := LF.out
          clear hb3
          go_wp2_with (at_builtin; refine wp_appL P3.out (.tmp 33) (.tmp 34) CF g3 (by omega) rfl rfl rfl rfl S3.out ?_; intro v' w' P4)
          go_meet
          rw [E.out]
          exact P4
      case rest =>
        obtain ⟨R3, hR3⟩ : ∃ R3, R3 = R2 ++ (if bf = 0 then [] else CF) := ⟨_, rfl⟩
        rw [← hR3] at hcut TW
        have P3 := hcut
        have R3L : R3.length ≤ 14 := by
          rw [hR3, List.length_append]
          have : (if bf = 0 then [] else CF).length ≤ 5 := by split; simp; exact LF.out
          omega
        have q := k0.keep P3.out.be l0
        clear c0 c1 c2 f0 f1 f2
        obtain ⟨c0, c1, c2, f0, f1, f2⟩ := q
        clear hR3 P
        by_cases z : bb = 0
        · have g : (bb != 0) = false := by rw [z]; rfl
          have E : Hid (TWO = R3) := Lib.hid (by rw [TW.out, if_pos z, List.append_nil])
          clear z
          go_wp2_with fail
          go_ret
          exact ⟨_, rfl, by rw [E.out]; exact own_lower P3.out.o1 HW.out.size, HW.out.trans (P3.out.be.mono HW.out.size)⟩
        · have g : (bb != 0) = true := by rw [bne_iff_ne]; exact z
          have E : Hid (TWO = R3 ++ CB) := Lib.hid (by rw [TW.out, if_neg z])
          clear z
          go_wp2_with fail
          refine (K2.out _).mono ?_; rintro e' w3 ⟨g3, rfl, S3, _, hb3⟩
          have P4 := Lib.hid (P3.out.call hb3)
          have S3 := Lib.hid S3
          have lf := LB.out
          clear hb3
          go_wp2_with (at_builtin; refine wp_appL P4.out (.tmp 42) (.tmp 43) CB g3 (by omega) rfl rfl rfl rfl S3.out ?_; intro v' w' P5)
          go_ret
          exact ⟨_, rfl, by rw [E.out]; exact own_lower P5.out.o1 HW.out.size, HW.out.trans (P5.out.be.mono HW.out.size)⟩
end Go.Proofs.YthcdcbibbfdjmaaDoor
