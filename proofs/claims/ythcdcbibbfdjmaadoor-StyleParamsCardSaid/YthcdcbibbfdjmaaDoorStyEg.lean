/- The numbers that make one style of another, the reference: differing. -/
import Derived.Test.YthcdcbibbfdjmaaDoorStyEf
namespace Go.Proofs.YthcdcbibbfdjmaaDoor
open Go Go.RowKit Go.Sort
set_option linter.unusedVariables false

theorem gone_bits (a b : B8) : (a &&& 3#8) &&& ~~~b = (a &&& ~~~b) &&& 3#8 := by
  apply b8_ext
  intro i hi
  simp only [BitVec.getLsbD_and, BitVec.getLsbD_not, hi, decide_true, Bool.true_and]
  cases a.getLsbD i <;> cases b.getLsbD i <;> simp

set_option maxHeartbeats 16000000 in
set_option maxRecDepth 100000 in
theorem ref_differing (a b : Sty) (hf : inSty b.fg) (hb : inSty b.bg) (w : World) : Calls Tryd.prog 37 #[styV a.fg a.bg a.at_, styV b.fg b.bg b.at_] w (IntRet w (oneL a b)) := by
  have K1 := Lib.hid (fun W => ref_colored b.fg 0 hf (Or.inl rfl) W)
  have K2 := Lib.hid (fun W => ref_colored b.bg 10 hb (Or.inr rfl) W)
  have LF := Lib.hid (col_len b.fg 30)
  have LB := Lib.hid (col_len b.bg 40)
  have e30 : (30 : Int) + 0 = 30 := rfl
  have e40 : (30 : Int) + 10 = 40 := rfl
  rw [e30] at K1
  rw [e40] at K2
  have TW : Hid (oneL a b = (if lightB a.at_ b.at_ = true then [22] else []) ++ takeL (a.at_ &&& ~~~b.at_) ++ setL ((b.at_ &&& ~~~a.at_) ||| (if lightB a.at_ b.at_ = true then b.at_ &&& 3 else 0)) ++ (if a.fg = b.fg then [] else colL b.fg 30) ++ (if a.bg = b.bg then [] else colL b.bg 40)) := Lib.hid rfl
  clear hf hb e30 e40
  obtain ⟨af, ab, aa⟩ := a
  obtain ⟨bf, bb, ba⟩ := b
  simp only at K1 K2 LF LB TW ⊢
  generalize colL bf 30 = CF at *
  generalize colL bb 40 = CB at *
  generalize oneL ⟨af, ab, aa⟩ ⟨bf, bb, ba⟩ = ONE at *
  obtain ⟨lam, hlam⟩ : ∃ lam : Bool, lam = lightB aa ba := ⟨_, rfl⟩
  have CB' := Lib.hid (fun i hi => come_bit aa ba i hi)
  have GB' := Lib.hid (fun i hi => gone_bit aa ba i hi)
  have HLAM := Lib.hid hlam
  rw [← hlam] at TW CB'
  have b3 : bits .and .u8 (bI aa) 3 = bI (aa &&& 3#8) := b8_and_lit aa 3 (by decide)
  have bl : (bI ((aa &&& 3#8) &&& ~~~ba) != 0) = lam := by
    rw [gone_bits, hlam]
    unfold lightB
    rw [Bool.eq_iff_iff, bne_iff_ne, bne_iff_ne]
    constructor
    · intro h e; apply h; rw [show aa &&& ~~~ba &&& 3#8 = 0 from e]; rfl
    · intro h e; apply h; exact bI_inj (b := 0) e
  obtain ⟨G, hG⟩ : ∃ G : B8, G = aa &&& ~~~ba := ⟨_, rfl⟩
  obtain ⟨CO, hCO⟩ : ∃ CO : B8, CO = (ba &&& ~~~aa) ||| (if lam = true then ba &&& 3 else 0) := ⟨_, rfl⟩
  rw [← hG] at TW GB'
  rw [← hCO] at TW CB'
  clear hlam hG hCO
  go_enter Tryd.func37, Tryd.ntmps37
  go_wp2_with fail
  refine (ref_takes6 _).mono ?_; rintro e w1 ⟨rfl, hw1⟩
  go_wp2_with fail
  refine (ref_sets6 _).mono ?_; rintro e w2 ⟨rfl, hw2⟩
  have k0 : C3 w2 w.heap.size (.int .i32 af) (.int .i32 ab) (.int .u8 (bI aa)) := by subst hw2 hw1; constructor <;> simp [go_sem]
  have k1 : C3 w2 (w.heap.size + 1) (.int .i32 bf) (.int .i32 bb) (.int .u8 (bI ba)) := by subst hw2 hw1; constructor <;> simp [go_sem]
  have HW : Hid (Below w.heap.size w w2) := Lib.hid (by subst hw2 hw1; go_grown)
  obtain ⟨gt, hgt⟩ : ∃ g, g = w.heap.size + 1 + 1 := ⟨_, rfl⟩
  obtain ⟨gs, hgs⟩ : ∃ g, g = w.heap.size + 1 + 1 + 1 := ⟨_, rfl⟩
  obtain ⟨X, hX⟩ : ∃ X, X = ((w.alloc (.cells #[.int .i32 af, .int .i32 ab, .int .u8 (bI aa)] 24)).alloc (.cells #[.int .i32 bf, .int .i32 bb, .int .u8 (bI ba)] 24)) := ⟨_, rfl⟩
  have hw3 : w2 = (X.alloc (.cells (ints takesL).toArray 3)).alloc (.cells (ints setsL).toArray 3) := by rw [hw2, hX]
  have sX : X.heap.size = gt := by rw [hX, hgt]; simp
  have sX1 : (X.alloc (.cells (ints takesL).toArray 3)).heap.size = gs := by rw [hgs, ← hgt, ← sX]; simp
  have OF : Hid (∀ k, k < 8 → w2.cell? ⟨gt, k, none⟩ = some (.int .i64 (offN k))) := Lib.hid (fun k h => by
    have q := (new_cell X (ints takesL) 3 k _ (sets_at k h).2).1
    have z := ((Below.refl (X.alloc (.cells (ints takesL).toArray 3)).heap.size (X.alloc (.cells (ints takesL).toArray 3))).alloc (Nat.le_refl _) (.cells (ints setsL).toArray 3)).cell (p := ⟨gt, k, none⟩) (by simp; omega)
    rw [hw3, z, ← sX]
    exact q)
  have ON : Hid (∀ k, k < 8 → w2.cell? ⟨gs, k, none⟩ = some (.int .i64 (onN k))) := Lib.hid (fun k h => by
    have q := (new_cell (X.alloc (.cells (ints takesL).toArray 3)) (ints setsL) 3 k _ (sets_at k h).1).1
    rw [sX1] at q
    rw [hw3]
    exact q)
  clear hw3 sX sX1 hX
  have l0 := k0.lt
  have l1 := k1.lt
  have lgt := block_lt_of_cell (OF.out 0 (by decide))
  have lgs := block_lt_of_cell (ON.out 0 (by decide))
  simp only at lgt lgs
  have P0 : Hid (Pair w2 w2 (.slice none 0 0) (.slice none 0 0) [] []) := Lib.hid ⟨World.ownsRow_nil _ _ _ _, World.ownsRow_nil _ _ _ _, (fun g h => by cases h), Below.refl _ _⟩
  have HGT := Lib.hid hgt
  have HGS := Lib.hid hgs
  have ho1 : w.heap.size + 1 + 1 = gt := hgt.symm
  have ho2 : w.heap.size + 1 + 1 + 1 = gs := hgs.symm
  have ho3 : gt + 1 = gs := by omega
  clear hw1 hw2 hgt hgs
  obtain ⟨c0, c1, c2, f0, f1, f2⟩ := k0
  obtain ⟨d0, d1, d2, i0, i1, i2⟩ := k1
  have K0 : Hid (C3 w2 w.heap.size (.int .i32 af) (.int .i32 ab) (.int .u8 (bI aa)) ∧ C3 w2 (w.heap.size + 1) (.int .i32 bf) (.int .i32 bb) (.int .u8 (bI ba))) := Lib.hid ⟨⟨c0, c1, c2, f0, f1, f2⟩, ⟨d0, d1, d2, i0, i1, i2⟩⟩
  go_upto_if 26 with fail
  try simp only [ho1, ho3]
  clear ho1 ho2 ho3
  go_cut [5] from 26 to 29 (fun s5 wx => Hid (Pair w2 wx s5 (.slice none 0 0) (if lam = true then [22] else []) []))
  case first =>
    cases lam with
    | true =>
      go_wp2_with (at_builtin; refine wp_app1 P0.out (.tmp 27) (.tmp 28) 22 (by simp) rfl rfl rfl rfl ?_; intro v' w' P2)
      go_meet
      exact P2
    | false =>
      go_wp2_with fail
      go_meet
      exact P0
  case rest =>
    obtain ⟨R1, hR1⟩ : ∃ R1 : List Int, R1 = (if lam = true then [22] else []) := ⟨_, rfl⟩
    rw [← hR1] at hcut TW
    have PR1 := hcut
    have R1L : R1.length ≤ 1 := by rw [hR1]; split <;> simp
    clear hR1 P0 b3 bl c0 c1 c2 f0 f1 f2 d0 d1 d2 i0 i1 i2
    go_wp2_with fail
    go_loopw [9, 5] (fun s9 s5 wr => ∃ k : Nat, 2 ≤ k ∧ k ≤ 8 ∧ s9 = .int .i64 k ∧ Hid (Pair w2 wr s5 (.slice none 0 0) (R1 ++ tkK G k) [])) (fun s9 _ _ => 8 - (intOf s9).toNat)
    case atStart => exact ⟨2, by omega, by omega, rfl, Lib.hid (by rw [tkK_two, List.append_nil]; exact PR1.out)⟩
    case round =>
      obtain ⟨k, k2, k8, rfl, P⟩ := hrel
      by_cases lt : k < 8
      · obtain ⟨⟨c0, c1, c2, f0, f1, f2⟩, ⟨d0, d1, d2, i0, i1, i2⟩⟩ := (show C3 wr w.heap.size (.int .i32 af) (.int .i32 ab) (.int .u8 (bI aa)) ∧ C3 wr (w.heap.size + 1) (.int .i32 bf) (.int .i32 bb) (.int .u8 (bI ba)) from ⟨K0.out.1.keep P.out.be l0, K0.out.2.keep P.out.be l1⟩)
        have NX := Lib.hid (tkK_next G k k2)
        have lb := tkK_len G k
        have ho := (P.out.be.cell (p := ⟨gt, k, none⟩) lgt).trans (OF.out k lt)
        have T1 := ref_bit6 aa k lt
        have T2 := ref_bit6 ba k lt
        have GB := GB'.out k lt
        cases e1 : aa.getLsbD k
        all_goals cases e2 : ba.getLsbD k
        all_goals
          rw [e1] at T1 GB
          rw [e2] at T2 GB
          have NX := NX.out
          rw [GB] at NX
          simp only [Bool.not_true, Bool.not_false, Bool.and_false, Bool.and_true, Bool.false_eq_true, if_false, if_true] at NX
          have NX := Lib.hid NX
          have T1 := Lib.hid T1
          have T2 := Lib.hid T2
          clear e1 e2 GB
          go_wp2_with fail
          refine (T1.out _).mono ?_; rintro e' w' ⟨rfl, rfl⟩
          go_wp2_with fail
          refine (T2.out _).mono ?_; rintro e' w' ⟨rfl, rfl⟩
          first
            | (go_wp2_with (at_builtin; refine wp_app1 P.out (.tmp 47) (.tmp 52) (offN k) (by rw [List.length_append]; omega) rfl rfl rfl rfl ?_; intro v' w' P4)
               go_roundw
               case rel => exact ⟨k + 1, by omega, by omega, by go_num, Lib.hid (by rw [NX.out, ← List.append_assoc]; exact P4.out)⟩
               case measure => simp [intOf]; omega
               done)
            | (go_wp2_with fail
               go_roundw
               case rel => exact ⟨k + 1, by omega, by omega, by go_num, Lib.hid (by rw [NX.out]; exact P.out)⟩
               case measure => simp [intOf]; omega)
      · have ek : k = 8 := by omega
        subst ek
        rw [tkK_all] at P
        obtain ⟨R2, hR2⟩ : ∃ R2, R2 = R1 ++ takeL G := ⟨_, rfl⟩
        rw [← hR2] at P TW
        have R2L : R2.length ≤ 9 := by rw [hR2, List.length_append]; have := tkK_len G 8; rw [tkK_all] at this; omega
        have PR2 := P
        clear hR2 P PR1
        go_wp2_with fail
        go_loopw [12, 5] (fun s12 s5 wr => ∃ k : Nat, k ≤ 8 ∧ s12 = .int .i64 k ∧ Hid (Pair w2 wr s5 (.slice none 0 0) (R2 ++ stK CO k) [])) (fun s12 _ _ => 8 - (intOf s12).toNat)
        case atStart => exact ⟨0, by omega, rfl, Lib.hid (by rw [show stK CO 0 = [] from rfl, List.append_nil]; exact PR2.out)⟩
        case round =>
          obtain ⟨k, k8, rfl, P⟩ := hrel
          by_cases lt : k < 8
          · obtain ⟨⟨c0, c1, c2, f0, f1, f2⟩, ⟨d0, d1, d2, i0, i1, i2⟩⟩ := (show C3 wr w.heap.size (.int .i32 af) (.int .i32 ab) (.int .u8 (bI aa)) ∧ C3 wr (w.heap.size + 1) (.int .i32 bf) (.int .i32 bb) (.int .u8 (bI ba)) from ⟨K0.out.1.keep P.out.be l0, K0.out.2.keep P.out.be l1⟩)
            have NX := Lib.hid (stK_next CO k)
            have lb := stK_len CO k
            have ho := (P.out.be.cell (p := ⟨gs, k, none⟩) lgs).trans (ON.out k lt)
            have T1 := ref_bit6 aa k lt
            have T2 := ref_bit6 ba k lt
            have CBk := CB'.out k lt
            generalize aa.getLsbD k = al at T1 CBk
            generalize ba.getLsbD k = be at T2 CBk
            have CBk := Lib.hid CBk
            have T1 := Lib.hid T1
            have T2 := Lib.hid T2
            go_wp2_with fail
            refine (T1.out _).mono ?_; rintro e' w' ⟨rfl, rfl⟩
            go_wp2_with fail
            refine (T2.out _).mono ?_; rintro e' w' ⟨rfl, rfl⟩
            go_upto_region 19 with fail
            go_cut [77] from 66 to 77 (fun s77 wx => s77 = .bool (CO.getLsbD k) ∧ wx = wr)
            case first =>
              have CBk := CBk.out
              by_cases k2 : k < 2
              all_goals
                first | (have kk : decide (k < 2) = true := decide_eq_true k2) | (have kk : decide (k < 2) = false := decide_eq_false k2)
                rw [kk] at CBk
                clear kk
                first | (have k2' : (k : Int) < 2 := by omega) | (have k2' : ¬ (k : Int) < 2 := by omega)
                cases lam
                all_goals cases al
                all_goals cases be
                all_goals
                  simp only [Bool.not_true, Bool.not_false, Bool.and_false, Bool.and_true, Bool.or_false, Bool.or_true, Bool.and_self, Bool.or_self] at CBk
                  have CBk := Lib.hid CBk
                  go_wp2_with fail
                  go_meet
                  exact ⟨by rw [CBk.out], rfl⟩
            case rest =>
              obtain ⟨rfl, ew⟩ := hcut
              subst ew
              have NX := NX.out
              cases e : CO.getLsbD k
              all_goals
                rw [e] at NX
                simp only [Bool.false_eq_true, if_false, if_true] at NX
                have NX := Lib.hid NX
                clear e
              · go_wp2_with fail
                go_roundw
                case rel => (repeat apply Exists.intro); exact ⟨⟨k + 1, by omega, by go_num, Lib.hid (by rw [NX.out]; exact P.out)⟩, rfl⟩
                case measure => simp [intOf]; omega
              · go_wp2_with (at_builtin; refine wp_app1 P.out (.tmp 78) (.tmp 83) (onN k) (by rw [List.length_append]; omega) rfl rfl rfl rfl ?_; intro v' w' P4)
                go_roundw
                case rel => (repeat apply Exists.intro); exact ⟨⟨k + 1, by omega, by go_num, Lib.hid (by rw [NX.out, ← List.append_assoc]; exact P4.out)⟩, rfl⟩
                case measure => simp [intOf]; omega
          · have ek : k = 8 := by omega
            subst ek
            rw [stK_all] at P
            obtain ⟨R3, hR3⟩ : ∃ R3, R3 = R2 ++ setL CO := ⟨_, rfl⟩
            rw [← hR3] at P TW
            have R3L : R3.length ≤ 17 := by rw [hR3, List.length_append]; have := stK_len CO 8; rw [stK_all] at this; omega
            have PR3 := P
            clear hR3 P PR2
            obtain ⟨⟨c0, c1, c2, f0, f1, f2⟩, ⟨d0, d1, d2, i0, i1, i2⟩⟩ := (show C3 wr w.heap.size (.int .i32 af) (.int .i32 ab) (.int .u8 (bI aa)) ∧ C3 wr (w.heap.size + 1) (.int .i32 bf) (.int .i32 bb) (.int .u8 (bI ba)) from ⟨K0.out.1.keep PR3.out.be l0, K0.out.2.keep PR3.out.be l1⟩)
            go_upto_if 89 with fail
            go_cut [5, 15] from 89 to 95 (fun s5 s15 wx => Hid (Pair w2 wx s5 (.slice none 0 0) (R3 ++ if af = bf then [] else CF) []))
            case first =>
              by_cases z : af = bf
              · have g : (bf != af) = false := by rw [z]; simp
                have E : Hid ((if af = bf then [] else CF) = []) := Lib.hid (if_pos z)
                clear z
                go_wp2_with fail
                go_meet
                rw [E.out, List.append_nil]
                exact PR3
              · have g : (bf != af) = true := by rw [bne_iff_ne]; exact Ne.symm z
                have E : Hid ((if af = bf then [] else CF) = CF) := Lib.hid (if_neg z)
                clear z
                go_wp2_with fail
                refine (K1.out _).mono ?_; rintro e' w3 ⟨g3, rfl, S3, _, hb3⟩
                have P3 := Lib.hid (PR3.out.call hb3)
                have S3 := Lib.hid S3
                have lf := LF.out
                clear hb3
                go_wp2_with (at_builtin; refine wp_appL P3.out (.tmp 93) (.tmp 94) CF g3 (by omega) rfl rfl rfl rfl S3.out ?_; intro v' w' P4)
                go_meet
                rw [E.out]
                exact P4
            case rest =>
              obtain ⟨R4, hR4⟩ : ∃ R4, R4 = R3 ++ (if af = bf then [] else CF) := ⟨_, rfl⟩
              rw [← hR4] at hcut TW
              have P3 := hcut
              have R4L : R4.length ≤ 22 := by
                rw [hR4, List.length_append]
                have : (if af = bf then [] else CF).length ≤ 5 := by split; simp; exact LF.out
                omega
              clear c0 c1 c2 f0 f1 f2 d0 d1 d2 i0 i1 i2
              obtain ⟨⟨c0, c1, c2, f0, f1, f2⟩, ⟨d0, d1, d2, i0, i1, i2⟩⟩ := (show C3 wc w.heap.size (.int .i32 af) (.int .i32 ab) (.int .u8 (bI aa)) ∧ C3 wc (w.heap.size + 1) (.int .i32 bf) (.int .i32 bb) (.int .u8 (bI ba)) from ⟨K0.out.1.keep P3.out.be l0, K0.out.2.keep P3.out.be l1⟩)
              clear hR4 PR3
              by_cases z : ab = bb
              · have g : (bb != ab) = false := by rw [z]; simp
                have E : Hid (ONE = R4) := Lib.hid (by rw [TW.out, if_pos z, List.append_nil])
                clear z
                go_wp2_with fail
                go_ret
                exact ⟨_, rfl, by rw [E.out]; exact own_lower P3.out.o1 HW.out.size, HW.out.trans (P3.out.be.mono HW.out.size)⟩
              · have g : (bb != ab) = true := by rw [bne_iff_ne]; exact Ne.symm z
                have E : Hid (ONE = R4 ++ CB) := Lib.hid (by rw [TW.out, if_neg z])
                clear z
                go_wp2_with fail
                refine (K2.out _).mono ?_; rintro e' w3 ⟨g3, rfl, S3, _, hb3⟩
                have P4 := Lib.hid (P3.out.call hb3)
                have S3 := Lib.hid S3
                have lf := LB.out
                clear hb3
                go_wp2_with (at_builtin; refine wp_appL P4.out (.tmp 104) (.tmp 105) CB g3 (by omega) rfl rfl rfl rfl S3.out ?_; intro v' w' P5)
                go_ret
                exact ⟨_, rfl, by rw [E.out]; exact own_lower P5.out.o1 HW.out.size, HW.out.trans (P5.out.be.mono HW.out.size)⟩
end Go.Proofs.YthcdcbibbfdjmaaDoor
