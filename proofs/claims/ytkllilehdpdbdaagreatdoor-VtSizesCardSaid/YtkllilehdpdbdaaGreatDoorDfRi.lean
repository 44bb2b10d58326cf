/- What a row of cells begins with, the program's side: unit. -/
import Derived.Test.YtkllilehdpdbdaaGreatDoorDfM
import Derived.Test.YtkllilehdpdbdaaGreatDoorDfP
namespace Go.Proofs.YtkllilehdpdbdaaGreatDoor
open Go.RowKit Go.Sort
set_option linter.unusedVariables false
set_option linter.unusedSimpArgs false

theorem emp_list (s : ByteArray) : s.toList = [] ↔ s = ⟨#[]⟩ := by
  rw [ByteArray.toList_eq]
  constructor
  · intro h
    apply ByteArray.ext
    rw [← Array.toList_inj, h]
  · intro h; rw [h]
theorem cel_cmp {α : Sort _} (b : Cel) (fg bg : Int) (at_ : B8) (x y : α) : (if b.text.toList = [] then if b.wide = 0 then if b.st.fg = fg then if b.st.bg = bg then if bI b.st.at_ = bI at_ then x else y else y else y else y else y) = if b = (⟨⟨#[]⟩, 0, ⟨fg, bg, at_⟩⟩ : Cel) then x else y := by
  obtain ⟨t, w, ⟨f, g, a⟩⟩ := b
  by_cases c : (⟨t, w, ⟨f, g, a⟩⟩ : Cel) = ⟨⟨#[]⟩, 0, ⟨fg, bg, at_⟩⟩
  · rw [if_pos c]
    injection c with c1 c2 c3
    injection c3 with c3 c4 c5
    subst c1 c2 c3 c4 c5
    rw [if_pos ((emp_list _).2 rfl), if_pos rfl, if_pos rfl, if_pos rfl, if_pos rfl]
  · rw [if_neg c]
    by_cases c1 : t.toList = []
    · rw [if_pos c1]
      by_cases c2 : w = 0
      · rw [if_pos c2]
        by_cases c3 : f = fg
        · rw [if_pos c3]
          by_cases c4 : g = bg
          · rw [if_pos c4]
            by_cases c5 : bI a = bI at_
            · exfalso; apply c
              rw [(emp_list _).1 c1, c2, c3, c4, bI_inj c5]
            · rw [if_neg c5]
          · rw [if_neg c4]
        · rw [if_neg c3]
      · rw [if_neg c2]
    · rw [if_neg c1]

set_option maxHeartbeats 16000000 in
set_option maxRecDepth 100000 in
theorem d_unit (A : Option Addr) (c : Nat) (a : Cel) (r : List Cel) (n : Nat) (hn : n = (a :: r).length) (hl : n ≤ 1000000000000) (hz : a.text.size ≤ 1000000000000) (hw0 : -128 ≤ a.wide) (hw1 : a.wide ≤ 127) (w : World) (S : Sees w w.heap.size A (celsV (a :: r))) :
    Calls Tryz.prog 107 #[.slice A n c] w fun e w' => e = .returned (.int .i64 (unitC (a :: r) : Int)) ∧ Below w.heap.size w w' := by
  obtain ⟨ad, rfl, hab, c0, c1, c2, c3, c4⟩ := cel_at S
  have UC : Hid (unitC (a :: r) = unit1 a r.head? (oneB a.text)) := Lib.hid rfl
  have ON := Lib.hid (d_One a.text hz)
  have OW : Hid (∀ u, oneB a.text = some u → u = 0 ∨ u = 1 ∨ u = 2) := Lib.hid (fun u h => oneB_wide _ _ h)
  have OV := Lib.hid (fun W => calls_later (over0 a.st W))
  have U1 : Hid (∀ u, oneB a.text = some u → unitC (a :: r) = if u < 1 ∨ u ≠ a.wide ∨ countS a.st ≠ a.st then 0 else if u = 2 ∧ r.head? ≠ some ⟨⟨#[]⟩, 0, a.st⟩ then 0 else u.toNat) := Lib.hid (fun u h => by rw [unit_cons, h, unit1_some])
  have U0 : Hid (oneB a.text = none → unitC (a :: r) = 0) := Lib.hid (fun h => by rw [unit_cons, h]; rfl)
  have SE := Lib.hid S
  have hp : 0 < n := by rw [hn]; simp
  have HN := Lib.hid hn
  obtain ⟨t, wd, st⟩ := a
  obtain ⟨fg, bg, at_⟩ := st
  simp only at c0 c1 c2 c3 c4 ON OW OV U1 U0 hz hw0 hw1
  generalize unitC (⟨t, wd, ⟨fg, bg, at_⟩⟩ :: r) = U at *
  generalize oneB t = o at *
  clear S UC hn
  go_enter Tryz.func107, Tryz.ntmps107
  go_wp2_with fail
  refine (ON.out _).mono ?_; rintro e w1 ⟨rfl, hb1⟩
  have K3 : C5 w1 w.heap.size (.string t) (.int .i8 wd) (.int .i32 fg) (.int .i32 bg) (.int .u8 (bI at_)) := C5.keep (by constructor <;> simp [go_sem]) hb1 (by simp)
  have HB1 := Lib.hid (show Below w.heap.size w w1 from below_call (by go_grown) (by simp) hb1)
  clear hb1 c0 c1 c2 c3 c4
  cases ho : o with
  | none =>
    have R : Hid (U = 0) := Lib.hid (U0.out ho)
    clear ho
    simp only [oneV]
    have K3 := K3.keep (w' := w1.alloc (.cells #[.string ⟨#[]⟩, .int .i64 0] 78)) ((Below.refl _ _).alloc (Nat.le_refl _) _) K3.lt
    have K4 : C2 (w1.alloc (.cells #[.string ⟨#[]⟩, .int .i64 0] 78)) w1.heap.size (.string ⟨#[]⟩) (.int .i64 0) := by constructor <;> simp [go_sem]
    have HX := Lib.hid (HB1.out.alloc HB1.out.size (.cells #[.string ⟨#[]⟩, .int .i64 0] 78))
    go_upto_region 3 with fail
    have g30 := fun d os => ((K3).regrown d os).c0
    have g31 := fun d os => ((K3).regrown d os).c1
    have g32 := fun d os => ((K3).regrown d os).c2
    have g33 := fun d os => ((K3).regrown d os).c3
    have g34 := fun d os => ((K3).regrown d os).c4
    have g40 := fun d os => ((K4).regrown d os).c0
    have g41 := fun d os => ((K4).regrown d os).c1
    refine wp_region_spec 22 [] [] (by kernel_rfl) (by kernel_rfl) (by kernel_rfl) (by intro t ht; cases ht) ?_
    simp only [List.take_succ_cons, List.take_zero, List.drop_succ_cons, List.drop_zero]
    repeat (refine wpS_step (by rfl) (fun K hK => ?_); go_simp; first | (refine hK _ ?_; clear hK K) | (apply Exists.intro; refine ⟨fun _ => ?_, hK _ ?_⟩; (fail); clear hK K))
    refine wpS_nil ?_
    intro W5 vs5 hl hv
    have hb5 := later_below.1 hl
    have HY := Lib.hid (HX.out.trans (hb5.mono HX.out.size))
    clear g30 g31 g32 g33 g34 g40 g41 hl hv hb5
    simp only [fillA]
    go_wp2_with fail
    go_ret
    exact ⟨by rw [R.out]; rfl, HY.out⟩
  | some u =>
    have R := Lib.hid (U1.out u ho)
    have uo := OW.out u ho
    clear ho U0 U1
    simp only [oneV]
    have K3 := K3.keep (w' := w1.alloc (.cells #[.string t, .int .i64 u] 78)) ((Below.refl _ _).alloc (Nat.le_refl _) _) K3.lt
    have K4 : C2 (w1.alloc (.cells #[.string t, .int .i64 u] 78)) w1.heap.size (.string t) (.int .i64 u) := by constructor <;> simp [go_sem]
    have HX := Lib.hid (HB1.out.alloc HB1.out.size (.cells #[.string t, .int .i64 u] 78))
    go_upto_region 3 with fail
    have g30 := fun d os => ((K3).regrown d os).c0
    have g31 := fun d os => ((K3).regrown d os).c1
    have g32 := fun d os => ((K3).regrown d os).c2
    have g33 := fun d os => ((K3).regrown d os).c3
    have g34 := fun d os => ((K3).regrown d os).c4
    have g40 := fun d os => ((K4).regrown d os).c0
    have g41 := fun d os => ((K4).regrown d os).c1
    have wr : IntKind.i64.wrap wd = wd := by rw [IntKind.wrap_i64]; omega
    by_cases u1 : u < 1
    · have R0 : Hid (U = 0) := Lib.hid (by rw [R.out, if_pos (Or.inl u1)])
      refine wp_region_spec 22 [] [] (by kernel_rfl) (by kernel_rfl) (by kernel_rfl) (by intro t ht; cases ht) ?_
      simp only [List.take_succ_cons, List.take_zero, List.drop_succ_cons, List.drop_zero]
      repeat (refine wpS_step (by rfl) (fun K hK => ?_); go_simp; first | (refine hK _ ?_; clear hK K) | (apply Exists.intro; refine ⟨fun _ => ?_, hK _ ?_⟩; (fail); clear hK K))
      refine wpS_nil ?_
      intro W5 vs5 hl hv
      have hb5 := later_below.1 hl
      have HY := Lib.hid (HX.out.trans (hb5.mono HX.out.size))
      clear g30 g31 g32 g33 g34 g40 g41 hl hv hb5
      simp only [fillA]
      go_wp2_with fail
      go_ret
      exact ⟨by rw [R0.out]; rfl, HY.out⟩
    by_cases uw : u = wd
    · subst uw
      simp only [countS] at OV R
      by_cases e1 : plC fg = fg
      · by_cases e2 : plC bg = bg
        · have R : Hid (U = if u = 2 ∧ r.head? ≠ some ⟨⟨#[]⟩, 0, ⟨fg, bg, at_⟩⟩ then 0 else u.toNat) := Lib.hid (by
            rw [R.out]
            refine if_neg ?_
            rintro (h | h | h)
            · exact u1 h
            · exact h rfl
            · exact h (by rw [e1, e2]))
          rw [e1, e2] at OV
          refine wp_region_spec 22 [] [] (by kernel_rfl) (by kernel_rfl) (by kernel_rfl) (by intro t ht; cases ht) ?_
          simp only [List.take_succ_cons, List.take_zero, List.drop_succ_cons, List.drop_zero]
          repeat (refine wpS_step (by rfl) (fun K hK => ?_); go_simp; first | (refine hK _ ?_; clear hK K) | (apply Exists.intro; refine ⟨fun _ => ?_, hK _ ?_⟩; (with_reducible exact OV.out _); clear hK K))
          refine wpS_nil ?_
          intro W5 vs5 hl hv
          have hb5 := later_below.1 hl
          have HY := Lib.hid (HX.out.trans (hb5.mono HX.out.size))
          have K3 := K3.keep hb5 K3.lt
          have K4 := K4.keep hb5 K4.lt
          clear g30 g31 g32 g33 g34 g40 g41 hl hv hb5
          simp only [fillA]
          go_wp2_with fail
          have g30 := fun d os => ((K3).regrown d os).c0
          have g31 := fun d os => ((K3).regrown d os).c1
          have g32 := fun d os => ((K3).regrown d os).c2
          have g33 := fun d os => ((K3).regrown d os).c3
          have g34 := fun d os => ((K3).regrown d os).c4
          have g40 := fun d os => ((K4).regrown d os).c0
          have g41 := fun d os => ((K4).regrown d os).c1
          by_cases u2 : u = 2
          · subst u2
            rcases r with _ | ⟨b, r'⟩
            · have R0 : Hid (U = 0) := Lib.hid (by rw [R.out]; exact if_pos ⟨rfl, by simp⟩)
              have n1 : n = 1 := by rw [HN.out]; rfl
              subst n1
              refine wp_region_spec 16 [] [] (by kernel_rfl) (by kernel_rfl) (by kernel_rfl) (by intro t ht; cases ht) ?_
              simp only [List.take_succ_cons, List.take_zero, List.drop_succ_cons, List.drop_zero]
              repeat (refine wpS_step (by rfl) (fun K hK => ?_); go_simp; first | (refine hK _ ?_; clear hK K) | (apply Exists.intro; refine ⟨fun _ => ?_, hK _ ?_⟩; (fail); clear hK K))
              refine wpS_nil ?_
              intro W6 vs6 hl hv
              have hb6 := later_below.1 hl
              have HZ := Lib.hid (HY.out.trans (hb6.mono HY.out.size))
              clear hl hv hb6
              simp only [fillA]
              go_wp2_with fail
              go_ret
              exact ⟨by rw [R0.out]; rfl, HZ.out⟩
            · have n2 : 2 ≤ n := by rw [HN.out]; simp
              have n3 : ¬ (n : Int) < 2 := by omega
              have n4 : (1 : Int) < (n : Int) := by omega
              have BC := fun d os => cel_two SE.out (HY.out.trans ((below_regrown W5 d os).mono HY.out.size)) hab
              have b0 := fun d os => (BC d os).1
              have b1 := fun d os => (BC d os).2.1
              have b2 := fun d os => (BC d os).2.2.1
              have b3 := fun d os => (BC d os).2.2.2.1
              have b4 := fun d os => (BC d os).2.2.2.2
              clear BC
              refine wp_region_spec 16 [] [] (by kernel_rfl) (by kernel_rfl) (by kernel_rfl) (by intro t ht; cases ht) ?_
              simp only [List.take_succ_cons, List.take_zero, List.drop_succ_cons, List.drop_zero]
              repeat (refine wpS_step (by rfl) (fun K hK => ?_); go_simp; first | (refine hK _ ?_; clear hK K) | (apply Exists.intro; refine ⟨fun _ => ?_, hK _ ?_⟩; (fail); clear hK K))
              refine wpS_step (by rfl) (fun K hK => ?_); go_simp
              by_cases hbb : b = (⟨⟨#[]⟩, 0, ⟨fg, bg, at_⟩⟩ : Cel)
              · have R0 : Hid (U = 2) := Lib.hid (by rw [R.out]; exact if_neg (fun h => h.2 (by rw [hbb]; rfl)))
                refine ⟨.bool false, fun p => ?_, hK _ ?_⟩
                · rw [cel_cmp, if_pos hbb]; exact ⟨rfl, rfl⟩
                clear hK K hbb
                repeat (refine wpS_step (by rfl) (fun K hK => ?_); go_simp; first | (refine hK _ ?_; clear hK K) | (apply Exists.intro; refine ⟨fun _ => ?_, hK _ ?_⟩; (fail); clear hK K))
                refine wpS_nil ?_
                intro W6 vs6 hl hv
                have hb6 := later_below.1 hl
                have HZ := Lib.hid (HY.out.trans (hb6.mono HY.out.size))
                obtain ⟨z0, z1⟩ := K4.keep hb6 K4.lt
                clear hl hv hb6
                simp only [fillA]
                go_wp2_with fail
                go_ret
                exact ⟨ret_int (by rw [R0.out]; rfl), HZ.out⟩
              · have R0 : Hid (U = 0) := Lib.hid (by rw [R.out]; exact if_pos ⟨rfl, fun h => hbb (Option.some.inj h)⟩)
                refine ⟨.bool true, fun p => ?_, hK _ ?_⟩
                · rw [cel_cmp, if_neg hbb]; exact ⟨rfl, rfl⟩
                clear hK K hbb
                repeat (refine wpS_step (by rfl) (fun K hK => ?_); go_simp; first | (refine hK _ ?_; clear hK K) | (apply Exists.intro; refine ⟨fun _ => ?_, hK _ ?_⟩; (fail); clear hK K))
                refine wpS_nil ?_
                intro W6 vs6 hl hv
                have hb6 := later_below.1 hl
                have HZ := Lib.hid (HY.out.trans (hb6.mono HY.out.size))
                clear hl hv hb6
                simp only [fillA]
                go_wp2_with fail
                go_ret
                exact ⟨by rw [R0.out]; rfl, HZ.out⟩
          · have R0 : Hid (U = u.toNat) := Lib.hid (by rw [R.out]; exact if_neg (fun h => u2 h.1))
            have q2 : (u == 2) = false := beq_eq_false_iff_ne.2 u2
            refine wp_region_spec 16 [] [] (by kernel_rfl) (by kernel_rfl) (by kernel_rfl) (by intro t ht; cases ht) ?_
            simp only [List.take_succ_cons, List.take_zero, List.drop_succ_cons, List.drop_zero]
            repeat (refine wpS_step (by rfl) (fun K hK => ?_); go_simp; first | (refine hK _ ?_; clear hK K) | (apply Exists.intro; refine ⟨fun _ => ?_, hK _ ?_⟩; (fail); clear hK K))
            refine wpS_nil ?_
            intro W6 vs6 hl hv
            have hb6 := later_below.1 hl
            have HZ := Lib.hid (HY.out.trans (hb6.mono HY.out.size))
            obtain ⟨z0, z1⟩ := K4.keep hb6 K4.lt
            clear hl hv hb6
            simp only [fillA]
            go_wp2_with fail
            go_ret
            exact ⟨ret_int (by rw [R0.out]; omega), HZ.out⟩
        · have R0 : Hid (U = 0) := Lib.hid (by rw [R.out]; exact if_pos (Or.inr (Or.inr fun h => e2 (Sty.mk.inj h).2.1)))
          have q : (plC bg == bg) = false := beq_eq_false_iff_ne.2 e2
          refine wp_region_spec 22 [] [] (by kernel_rfl) (by kernel_rfl) (by kernel_rfl) (by intro t ht; cases ht) ?_
          simp only [List.take_succ_cons, List.take_zero, List.drop_succ_cons, List.drop_zero]
          repeat (refine wpS_step (by rfl) (fun K hK => ?_); go_simp; first | (refine hK _ ?_; clear hK K) | (apply Exists.intro; refine ⟨fun _ => ?_, hK _ ?_⟩; (with_reducible exact OV.out _); clear hK K))
          refine wpS_nil ?_
          intro W5 vs5 hl hv
          have hb5 := later_below.1 hl
          have HY := Lib.hid (HX.out.trans (hb5.mono HX.out.size))
          clear g30 g31 g32 g33 g34 g40 g41 hl hv hb5
          simp only [fillA]
          go_wp2_with fail
          go_ret
          exact ⟨by rw [R0.out]; rfl, HY.out⟩
      · have R0 : Hid (U = 0) := Lib.hid (by rw [R.out]; exact if_pos (Or.inr (Or.inr fun h => e1 (Sty.mk.inj h).1)))
        have q : (plC fg == fg) = false := beq_eq_false_iff_ne.2 e1
        refine wp_region_spec 22 [] [] (by kernel_rfl) (by kernel_rfl) (by kernel_rfl) (by intro t ht; cases ht) ?_
        simp only [List.take_succ_cons, List.take_zero, List.drop_succ_cons, List.drop_zero]
        repeat (refine wpS_step (by rfl) (fun K hK => ?_); go_simp; first | (refine hK _ ?_; clear hK K) | (apply Exists.intro; refine ⟨fun _ => ?_, hK _ ?_⟩; (with_reducible exact OV.out _); clear hK K))
        refine wpS_nil ?_
        intro W5 vs5 hl hv
        have hb5 := later_below.1 hl
        have HY := Lib.hid (HX.out.trans (hb5.mono HX.out.size))
        clear g30 g31 g32 g33 g34 g40 g41 hl hv hb5
        simp only [fillA]
        go_wp2_with fail
        go_ret
        exact ⟨by rw [R0.out]; rfl, HY.out⟩
    · have R0 : Hid (U = 0) := Lib.hid (by rw [R.out, if_pos (Or.inr (Or.inl uw))])
      have q : (u != wd) = true := by rw [bne_iff_ne]; exact uw
      refine wp_region_spec 22 [] [] (by kernel_rfl) (by kernel_rfl) (by kernel_rfl) (by intro t ht; cases ht) ?_
      simp only [List.take_succ_cons, List.take_zero, List.drop_succ_cons, List.drop_zero]
      repeat (refine wpS_step (by rfl) (fun K hK => ?_); go_simp; first | (refine hK _ ?_; clear hK K) | (apply Exists.intro; refine ⟨fun _ => ?_, hK _ ?_⟩; (fail); clear hK K))
      refine wpS_nil ?_
      intro W5 vs5 hl hv
      have hb5 := later_below.1 hl
      have HY := Lib.hid (HX.out.trans (hb5.mono HX.out.size))
      clear g30 g31 g32 g33 g34 g40 g41 hl hv hb5
      simp only [fillA]
      go_wp2_with fail
      go_ret
      exact ⟨by rw [R0.out]; rfl, HY.out⟩
end Go.Proofs.YtkllilehdpdbdaaGreatDoor

/- Is a row right; may a screen be that large: the program's side: units, whole, sized. -/
namespace Go.Proofs.YtkllilehdpdbdaaGreatDoor
open Go.RowKit Go.Sort
set_option linter.unusedVariables false
set_option linter.unusedSimpArgs false

/-- what fits into memory -/
def okC (c : Cel) : Prop := c.text.size ≤ 1000000000000 ∧ -128 ≤ c.wide ∧ c.wide ≤ 127
theorem row_step (l : List Cel) (h : l ≠ []) : rowR l = (decide (0 < unitC l) && rowR (l.drop (max (unitC l) 1))) := by
  have e1 := whole_row (l.length + 1) l (by omega)
  have e2 := whole_row l.length (l.drop (max (unitC l) 1)) (by rw [List.length_drop]; omega)
  rw [← e1, ← e2]
  conv => lhs; unfold wholeF
  rw [if_neg h]

set_option maxHeartbeats 4000000 in
theorem d_sized (a b : Int) : Tells 57 #[.int .i64 a, .int .i64 b] (.bool (sizedI a b)) := by
  intro w
  have R : Hid (sizedI a b = (decide (0 ≤ a) && decide (a ≤ 4096) && decide (0 ≤ b) && decide (b ≤ 4096) && decide (a * b ≤ 1048576))) := Lib.hid rfl
  generalize sizedI a b = r at *
  by_cases c1 : 0 ≤ a
  · by_cases c2 : a ≤ 4096
    · by_cases c3 : 0 ≤ b
      · by_cases c4 : b ≤ 4096
        · have m0 : 0 ≤ a * b := Int.mul_nonneg c1 c3
          have m1 : a * b ≤ 4096 * 4096 := Int.mul_le_mul c2 c4 c3 (by omega)
          have R : Hid (r = decide (a * b ≤ 1048576)) := Lib.hid (by rw [R.out, decide_eq_true c1, decide_eq_true c2, decide_eq_true c3, decide_eq_true c4]; rfl)
          by_cases c5 : a * b ≤ 1048576
          all_goals
            go_enter Tryz.func57, Tryz.ntmps57
            go_wp2_with fail
            go_ret
            exact ⟨ret_bool (by rw [R.out]; simp [c5]), rfl⟩
        · have R : Hid (r = false) := Lib.hid (by rw [R.out, decide_eq_false c4]; simp)
          go_enter Tryz.func57, Tryz.ntmps57
          go_wp2_with fail
          go_ret
          exact ⟨ret_bool (by rw [R.out]), rfl⟩
      · have R : Hid (r = false) := Lib.hid (by rw [R.out, decide_eq_false c3]; simp)
        go_enter Tryz.func57, Tryz.ntmps57
        go_wp2_with fail
        go_ret
        exact ⟨ret_bool (by rw [R.out]), rfl⟩
    · have R : Hid (r = false) := Lib.hid (by rw [R.out, decide_eq_false c2]; simp)
      go_enter Tryz.func57, Tryz.ntmps57
      go_wp2_with fail
      go_ret
      exact ⟨ret_bool (by rw [R.out]), rfl⟩
  · have R : Hid (r = false) := Lib.hid (by rw [R.out, decide_eq_false c1]; simp)
    go_enter Tryz.func57, Tryz.ntmps57
    go_wp2_with fail
    go_ret
    exact ⟨ret_bool (by rw [R.out]), rfl⟩

set_option maxHeartbeats 4000000 in
theorem d_whole1 (b : Bool) (i n : Int) (g : Nat) (w : World) (hc : w.cell? ⟨g, 0, none⟩ = some (.bool b)) (hf : w.frozen? ⟨g, 0, none⟩ = false) :
    Calls Tryz.prog 79 #[.int .i64 i, .int .i64 n, .pointer (some ⟨g, 0, none⟩)] w fun e w' => (∃ v, e = .returned v) ∧ w' = w.setCell ⟨g, 0, none⟩ (.bool (b && decide (0 < n))) := by
  cases b with
  | false =>
    go_enter Tryz.func79, Tryz.ntmps79
    go_wp2_with fail
    go_end0
    exact ⟨⟨_, rfl⟩, rfl⟩
  | true =>
    obtain ⟨q, hq⟩ : ∃ q : Bool, q = (true && decide (0 < n)) := ⟨_, rfl⟩
    rw [← hq]
    have HQ := Lib.hid hq
    by_cases c : 0 < n
    all_goals
      have R := HQ.out
      first | rw [decide_eq_true c] at R | rw [decide_eq_false c] at R
      have R := Lib.hid R
      clear hq
      go_enter Tryz.func79, Tryz.ntmps79
      go_wp2_with fail
      go_end0
      exact ⟨⟨_, rfl⟩, by first | rfl | (rw [R.out]; rfl)⟩

set_option maxHeartbeats 8000000 in
set_option maxRecDepth 100000 in
theorem d_units (B g : Nat) (A : Option Addr) (c : Nat) (L : List Cel) (hl : L.length ≤ 1000000000000) (hcp : L.length ≤ c) (ho : ∀ x ∈ L, okC x) (w : World) (hB : B ≤ g) (hg : g < w.heap.size) (hc : w.cell? ⟨g, 0, none⟩ = some (.bool true)) (hf : w.frozen? ⟨g, 0, none⟩ = false) (S : Sees w B A (celsV L)) :
    Calls Tryz.prog 78 #[.slice A L.length c, .func (.func 79) #[] #[.pointer (some ⟨g, 0, none⟩)]] w fun e w' => (∃ v, e = .returned v) ∧ w'.cell? ⟨g, 0, none⟩ = some (.bool (rowR L)) ∧ Below B w w' := by
  obtain ⟨N, hN⟩ : ∃ N, N = L.length := ⟨_, rfl⟩
  have HN := Lib.hid hN
  have HS := Lib.hid S
  have HO := Lib.hid ho
  rw [← hN] at hl hcp ⊢
  clear S ho hN
  go_enter Tryz.func78, Tryz.ntmps78
  go_wp2_with fail
  go_loopw [4, 5] (fun i n5 wr => ∃ (k : Nat) (b : Bool), k ≤ N ∧ i = .int .i64 k ∧ Hid (rowR L = (b && rowR (L.drop k))) ∧ Hid (wr.cell? ⟨g, 0, none⟩ = some (.bool b) ∧ wr.frozen? ⟨g, 0, none⟩ = false ∧ g < wr.heap.size ∧ Below B w wr)) (fun i _ _ => N - (intOf i).toNat)
  case atStart => exact ⟨0, true, Nat.zero_le _, rfl, Lib.hid (by simp), Lib.hid ⟨hc, hf, hg, Below.refl _ _⟩⟩
  case round =>
    obtain ⟨k, b, hk, rfl, hr, hm⟩ := hrel
    clear hc hf hg
    by_cases lt : k < N
    · have kl : k < L.length := by have := HN.out; omega
      obtain ⟨a, r, hd⟩ : ∃ a r, L.drop k = a :: r := ⟨L[k], L.drop (k + 1), List.drop_eq_getElem_cons kl⟩
      have ok : okC a := HO.out a (List.mem_of_mem_drop (by rw [hd]; simp))
      have ln : N - k = (a :: r).length := by rw [← hd, List.length_drop, ← HN.out]
      obtain ⟨ad, rfl, hab⟩ : ∃ ad, A = some ad ∧ ad.block < B := by
        obtain ⟨ad, e, h, _⟩ := HS.out (fun e => by have := celsV_len L; rw [e] at this; simp at this; omega)
        exact ⟨ad, e, h⟩
      obtain ⟨m1, m2, m3, m4⟩ := hm.out
      have S1 : Sees wr wr.heap.size (some (ad.add (k * 5))) (celsV (a :: r)) := by
        have h := ((HS.out.below m4 (Nat.le_refl _)).more (show B ≤ wr.heap.size by omega)).dropV (k * 5)
        rw [← celsV_drop, hd] at h
        exact h
      have UN := Lib.hid (d_unit (some (ad.add (k * 5))) (c - k) a r (N - k) ln (by omega) ok.1 ok.2.1 ok.2.2 wr S1)
      have UL := unit_le (a :: r)
      have ul2 : unitC (a :: r) ≤ N - k := by
        have := UL.2
        rw [← ln] at this
        omega
      have RS : Hid (rowR L = ((b && decide (0 < (unitC (a :: r) : Int))) && rowR (L.drop (k + max (unitC (a :: r)) 1)))) := Lib.hid (by
        rw [hr.out, hd, row_step (a :: r) (by simp), Bool.and_assoc, ← hd, List.drop_drop]
        congr 2
        exact decide_eq_decide.2 (by omega))
      have MM := Lib.hid (show wr.cell? ⟨g, 0, none⟩ = some (.bool b) ∧ wr.frozen? ⟨g, 0, none⟩ = false ∧ g < wr.heap.size ∧ Below B w wr from ⟨m1, m2, m3, m4⟩)
      have ck : ¬ c = k := by omega
      have bc : B ≤ wr.heap.size := by omega
      generalize unitC (a :: r) = u at *
      clear S1 hd ok ln UL hr m1 m2 m3 m4 hm kl
      go_wp2_with fail
      refine UN.out.mono ?_; rintro e w1 ⟨rfl, hb1⟩
      have M1 : Hid (w1.cell? ⟨g, 0, none⟩ = some (.bool b) ∧ w1.frozen? ⟨g, 0, none⟩ = false ∧ g < w1.heap.size ∧ Below B w w1) := Lib.hid ⟨(hb1.cell (p := ⟨g, 0, none⟩) MM.out.2.2.1).trans MM.out.1, (hb1.frozen (p := ⟨g, 0, none⟩) MM.out.2.2.1).trans MM.out.2.1, Nat.lt_of_lt_of_le MM.out.2.2.1 hb1.size, MM.out.2.2.2.trans (hb1.mono bc)⟩
      clear hb1
      go_wp2_with fail
      refine (d_whole1 b k u g w1 M1.out.1 M1.out.2.1).mono ?_; rintro e w2 ⟨⟨v, rfl⟩, rfl⟩
      have M2 : Hid ((w1.setCell ⟨g, 0, none⟩ (.bool (b && decide (0 < (u : Int))))).cell? ⟨g, 0, none⟩ = some (.bool (b && decide (0 < (u : Int)))) ∧ (w1.setCell ⟨g, 0, none⟩ (.bool (b && decide (0 < (u : Int))))).frozen? ⟨g, 0, none⟩ = false ∧ g < (w1.setCell ⟨g, 0, none⟩ (.bool (b && decide (0 < (u : Int))))).heap.size ∧ Below B w (w1.setCell ⟨g, 0, none⟩ (.bool (b && decide (0 < (u : Int)))))) := Lib.hid (by
        obtain ⟨a1, a2, a3, a4⟩ := M1.out
        exact ⟨by simp [go_sem, *], by simp [go_sem, *], by simpa using a3, a4.setCell hB _⟩)
      generalize w1.setCell ⟨g, 0, none⟩ (.bool (b && decide (0 < (u : Int)))) = w2 at *
      clear M1
      by_cases u0 : u = 0
      · subst u0
        go_wp2_with fail
        go_roundw
        case rel => exact ⟨k + 1, _, by omega, by go_num, RS, M2⟩
        case measure => simp [intOf]; omega
      · have e1 : max u 1 = u := by omega
        rw [e1] at RS
        have u1 : 1 ≤ (u : Int) := by omega
        go_wp2_with fail
        go_roundw
        case rel => exact ⟨k + u, _, by omega, by go_num, RS, M2⟩
        case measure => simp [intOf]; omega
    · have e : k = N := by omega
      subst e
      have R : Hid (rowR L = b) := Lib.hid (by rw [hr.out, List.drop_eq_nil_of_le (by have := HN.out; omega)]; simp [rowR])
      have HM := Lib.hid hm.out
      clear hr hm
      go_wp2_with fail
      go_end0
      exact ⟨⟨_, rfl⟩, by rw [R.out]; exact HM.out.1, HM.out.2.2.2⟩
end Go.Proofs.YtkllilehdpdbdaaGreatDoor

/- Is a screen right: the program's side: whole, Right, Blank. -/
namespace Go.Proofs.YtkllilehdpdbdaaGreatDoor
open Go.RowKit Go.Sort
set_option linter.unusedVariables false
set_option linter.unusedSimpArgs false

set_option maxHeartbeats 4000000 in
theorem d_whole (A : Option Addr) (c : Nat) (L : List Cel) (n : Nat) (hn : n = L.length) (hl : L.length ≤ 1000000000000) (hcp : L.length ≤ c) (ho : ∀ x ∈ L, okC x) (w : World) (S : Sees w w.heap.size A (celsV L)) :
    Calls Tryz.prog 58 #[.slice A n c] w fun e w' => e = .returned (.bool (rowR L)) ∧ Below w.heap.size w w' := by
  subst hn
  have hmf : ∀ (fn : Fn) (first cap : Array Value) (w : World), (Instr.makeFunc fn first cap).run Tryz.prog w = .ok (.func fn first cap) w := fun _ _ _ _ => rfl
  obtain ⟨W, hW⟩ : ∃ W, W = w.alloc (.cells #[.bool true] 4) := ⟨_, rfl⟩
  have hB : Below w.heap.size w W := by rw [hW]; exact (Below.refl _ w).alloc (Nat.le_refl _) _
  have U := Lib.hid (d_units w.heap.size w.heap.size A c L hl hcp ho W (Nat.le_refl _) (by rw [hW]; simp) (by rw [hW]; simp [go_sem]) (by rw [hW]; simp [go_sem]) (S.below hB (Nat.le_refl _)))
  have HB := Lib.hid hB
  generalize rowR L = r at *
  generalize L.length = n at *
  clear hB S ho
  go_enter Tryz.func58, Tryz.ntmps58
  go_wp2_with fail
  rw [← hW]
  clear hW
  refine U.out.mono ?_; rintro e w1 ⟨⟨v, rfl⟩, hc, hb⟩
  have HB2 := Lib.hid (HB.out.trans hb)
  clear hb
  go_wp2_with fail
  go_ret
  exact ⟨rfl, HB2.out⟩

def scrV (s : Scr) (A : Option Addr) (c : Nat) : Value := .agg #[.int .i64 s.w, .int .i64 s.h, .slice A s.cells.length c, .int .i64 s.x, .int .i64 s.y, .bool s.shown]
theorem right_no1 (s : Scr) (h : sizedI s.w s.h = false) : rightS s = false := by unfold rightS; rw [h]; rfl
theorem right_no2 (s : Scr) (h : ¬ (s.cells.length : Int) = s.w * s.h) : rightS s = false := by unfold rightS; rw [decide_eq_false h]; simp
theorem right_no3 (s : Scr) (y : Nat) (hy : y < s.h.toNat) (h : rowR (rowAt s y) = false) : rightS s = false := by
  cases e : rightS s with
  | false => rfl
  | true => have := (right_parts e).2.2.1 y hy; rw [h] at this; cases this
theorem right_all (s : Scr) (h1 : sizedI s.w s.h = true) (h2 : (s.cells.length : Int) = s.w * s.h) (h3 : ∀ y, y < s.h.toNat → rowR (rowAt s y) = true) : rightS s = cursR s := by
  cases e : cursR s with
  | false =>
    unfold rightS
    rw [e]
    simp
  | true => exact right_mk h1 h2 h3 e

/-- where a slice that is cut ahead lies -/
def cutA (A : Option Addr) (c P : Nat) : Option Addr := if c = P then A else A.map fun a => a.add (P * 5)
theorem cells_from (A : Option Addr) (n c P : Nat) (h : P ≤ n) (W : World) : (Instr.slice 40 (.slice A n c) (some (.int .i64 (P : Int))) none none).run Tryz.prog W = .ok (.slice (cutA A c P) (n - P) (c - P)) W := by
  rw [run_slice_l W 40 A n c (by kernel_rfl) .i64 (P : Int) (by omega) (by omega)]
  rw [Int.toNat_natCast]
  have sz : (sizeOf (Tryz.prog.elem 40)).run Tryz.prog W = .ok 5 W := by kernel_rfl
  rw [sz]
  rfl
theorem sees_cutA {w : World} {B : Nat} {A : Option Addr} {L : List Cel} (c P : Nat) (h : Sees w B A (celsV L)) (hc : L.length ≤ c) : Sees w B (cutA A c P) (celsV (L.drop P)) := by
  unfold cutA
  by_cases e : c = P
  · rw [if_pos e, List.drop_eq_nil_of_le (by omega)]
    exact Sees.nil _ _ _
  · rw [if_neg e]
    cases A with
    | none =>
      have : L = [] := by
        cases L with
        | nil => rfl
        | cons a r =>
          obtain ⟨ad, e, _⟩ := h (by rw [celsV_cons]; simp [celV])
          cases e
      subst this
      rw [List.drop_nil]
      exact Sees.nil _ _ _
    | some ad => rw [celsV_drop]; exact h.dropV _

set_option maxHeartbeats 16000000 in
set_option maxRecDepth 100000 in
theorem d_Right (s : Scr) (A : Option Addr) (c : Nat) (hcp : s.cells.length ≤ c) (hA : A = none → c = 0) (hl : s.cells.length ≤ 1000000000000) (ho : ∀ x ∈ s.cells, okC x) (w : World) (S : Sees w w.heap.size A (celsV s.cells)) :
    Calls Tryz.prog 35 #[scrV s A c] w fun e w' => e = .returned (.bool (rightS s)) ∧ Below w.heap.size w w' := by
  have R1 := Lib.hid (right_no1 s)
  have R2 := Lib.hid (right_no2 s)
  have R3 := Lib.hid (right_no3 s)
  have R4 := Lib.hid (right_all s)
  have ROW : Hid (∀ k, rowAt s k = (s.cells.drop (k * s.w.toNat)).take s.w.toNat) := Lib.hid (fun _ => rfl)
  have CU : Hid (cursR s = if s.shown = true then decide (0 ≤ s.x) && decide (s.x < s.w) && decide (0 ≤ s.y) && decide (s.y < s.h) else decide (s.x = 0) && decide (s.y = 0)) := Lib.hid rfl
  have HO := Lib.hid ho
  have HS := Lib.hid S
  have HAN := Lib.hid hA
  generalize rightS s = r at *
  generalize cursR s = cu at *
  simp only [scrV]
  obtain ⟨N, hN⟩ : ∃ N, N = s.cells.length := ⟨_, rfl⟩
  rw [← hN] at hcp hl R2 R4 ⊢
  have HN := Lib.hid hN
  clear ho S hA hN
  cases hs : sizedI s.w s.h with
  | false =>
    have R := Lib.hid (R1.out hs)
    have SZ := Lib.hid (d_sized s.w s.h)
    rw [hs] at SZ
    clear hs
    go_enter Tryz.func35, Tryz.ntmps35
    go_wp2_with fail
    refine (SZ.out _).mono ?_; rintro e w1 ⟨rfl, rfl⟩
    go_wp2_with fail
    go_ret
    exact ⟨ret_bool (by rw [R.out]), by go_grown⟩
  | true =>
    have SZ := Lib.hid (d_sized s.w s.h)
    have R5 := Lib.hid (R4.out hs)
    clear R4
    obtain ⟨w0, w1, h0, h1, wh⟩ := sized_parts hs
    rw [hs] at SZ
    obtain ⟨W, hW⟩ : ∃ W : Nat, s.w = (W : Int) := ⟨s.w.toNat, by omega⟩
    obtain ⟨H, hH⟩ : ∃ H : Nat, s.h = (H : Int) := ⟨s.h.toNat, by omega⟩
    rw [hW, hH] at R2 R5 SZ CU wh ⊢
    rw [hH] at R3
    rw [Int.toNat_natCast] at R3 R5
    rw [hW] at ROW w0 w1
    rw [hH] at h0 h1
    rw [Int.toNat_natCast] at ROW
    obtain ⟨M, hM⟩ : ∃ M : Nat, M = W * H := ⟨_, rfl⟩
    have eM : (W : Int) * (H : Int) = (M : Int) := by rw [hM, Int.natCast_mul]
    have HM := Lib.hid hM
    rw [eM] at R2 R5 wh
    clear hs hW hH hM
    obtain ⟨Q, hQ⟩ : ∃ Q, Q = w.alloc (.cells #[.int .i64 (W : Int), .int .i64 (H : Int), .slice A N c, .int .i64 s.x, .int .i64 s.y, .bool s.shown] 42) := ⟨_, rfl⟩
    have BQ := Lib.hid (show Below w.heap.size w Q by rw [hQ]; exact (Below.refl _ w).alloc (Nat.le_refl _) _)
    have q0 : Q.cell? ⟨w.heap.size, 0, none⟩ = some (.int .i64 (W : Int)) := by rw [hQ]; simp [go_sem]
    have q1 : Q.cell? ⟨w.heap.size, 1, none⟩ = some (.int .i64 (H : Int)) := by rw [hQ]; simp [go_sem]
    have q2 : Q.cell? ⟨w.heap.size, 2, none⟩ = some (.slice A N c) := by rw [hQ]; simp [go_sem]
    have q3 : Q.cell? ⟨w.heap.size, 3, none⟩ = some (.int .i64 s.x) := by rw [hQ]; simp [go_sem]
    have q4 : Q.cell? ⟨w.heap.size, 4, none⟩ = some (.int .i64 s.y) := by rw [hQ]; simp [go_sem]
    have q5 : Q.cell? ⟨w.heap.size, 5, none⟩ = some (.bool s.shown) := by rw [hQ]; simp [go_sem]
    have HQ := Lib.hid hQ
    by_cases hn : (N : Int) = (M : Int)
    · have R6 := Lib.hid (R5.out hn)
      clear R5
      have nm : N = M := by omega
      subst nm
      go_enter Tryz.func35, Tryz.ntmps35
      go_wp2_with fail
      rw [← hQ]
      clear hQ
      refine (SZ.out _).mono ?_; rintro e w1 ⟨rfl, rfl⟩
      go_wp2_with fail
      go_loopw [23] (fun i wr => ∃ k : Nat, k ≤ H ∧ i = .int .i64 k ∧ Hid (∀ y, y < k → rowR (rowAt s y) = true) ∧ Hid (Below Q.heap.size Q wr)) (fun i _ => H - (intOf i).toNat)
      case atStart => exact ⟨0, Nat.zero_le _, rfl, Lib.hid (fun y h => by omega), Lib.hid (Below.refl _ _)⟩
      case round =>
        obtain ⟨k, hk, rfl, hr, hbq⟩ := hrel
        have hqs : w.heap.size < Q.heap.size := block_lt_of_cell q0
        have z0 : wr.cell? ⟨w.heap.size, 0, none⟩ = some (.int .i64 (W : Int)) := (hbq.out.cell (p := ⟨w.heap.size, 0, none⟩) hqs).trans q0
        have z2 : wr.cell? ⟨w.heap.size, 2, none⟩ = some (.slice A N c) := (hbq.out.cell (p := ⟨w.heap.size, 2, none⟩) hqs).trans q2
        have z3 : wr.cell? ⟨w.heap.size, 3, none⟩ = some (.int .i64 s.x) := (hbq.out.cell (p := ⟨w.heap.size, 3, none⟩) hqs).trans q3
        have z4 : wr.cell? ⟨w.heap.size, 4, none⟩ = some (.int .i64 s.y) := (hbq.out.cell (p := ⟨w.heap.size, 4, none⟩) hqs).trans q4
        have z5 : wr.cell? ⟨w.heap.size, 5, none⟩ = some (.bool s.shown) := (hbq.out.cell (p := ⟨w.heap.size, 5, none⟩) hqs).trans q5
        have z1 : wr.cell? ⟨w.heap.size, 1, none⟩ = some (.int .i64 (H : Int)) := (hbq.out.cell (p := ⟨w.heap.size, 1, none⟩) hqs).trans q1
        have Z5 := Lib.hid q5
        clear q0 q1 q2 q3 q4 q5
        by_cases lt : k < H
        · obtain ⟨P, hP⟩ : ∃ P : Nat, P = k * W := ⟨_, rfl⟩
          have eP : (k : Int) * (W : Int) = (P : Int) := by rw [hP, Int.natCast_mul]
          have le : P + W ≤ N := by
            rw [hP, HM.out, Nat.mul_comm W H, ← Nat.succ_mul]
            exact Nat.mul_le_mul_right _ lt
          have ROWK : rowAt s k = (s.cells.drop P).take W := by rw [ROW.out, hP]
          have hs1 := fun X => cells_from A N c P (by omega) X
          have sc2 : (W : Int) ≤ ((c - P : Nat) : Int) := by omega
          have wP : IntKind.i64.wrap (P : Int) = (P : Int) := by rw [IntKind.wrap_i64]; omega
          have SW : Sees wr wr.heap.size (cutA A c P) (celsV ((s.cells.drop P).take W)) := by
            rw [celsV_take]
            refine Sees.takeV _ ?_
            refine sees_cutA c P ?_ (by rw [← HN.out]; exact hcp)
            exact (HS.out.below (BQ.out.trans (hbq.out.mono BQ.out.size)) (Nat.le_refl _)).more (by have := hbq.out.size; have := BQ.out.size; omega)
          have lw : W = ((s.cells.drop P).take W).length := by rw [List.length_take, List.length_drop, ← HN.out]; omega
          have WH : Hid (∀ d os, Calls Tryz.prog 58 #[.slice (cutA A c P) W (c - P)] (grow (redrawn wr d) os) fun e w' => e = .returned (.bool (rowR (rowAt s k))) ∧ Later (grow (redrawn wr d) os) w') := Lib.hid (fun d os => by
            rw [ROWK]
            exact calls_later (d_whole _ _ _ W lw (by omega) (by omega) (fun x hx => HO.out x (List.mem_of_mem_drop (List.mem_of_mem_take hx))) _ ((SW.below (below_regrown wr d os) (Nat.le_refl _)).more (below_regrown wr d os).size)))
          clear hP SW lw ROWK
          generalize cutA A c P = A2 at *
          go_upto_region 6 with fail
          have g0 : ∀ d os, (grow (redrawn wr d) os).cell? ⟨w.heap.size, 0, none⟩ = some (.int .i64 (W : Int)) := fun d os => ((below_regrown wr d os).cell (p := ⟨w.heap.size, 0, none⟩) (block_lt_of_cell z0)).trans z0
          have g2 : ∀ d os, (grow (redrawn wr d) os).cell? ⟨w.heap.size, 2, none⟩ = some (.slice A N c) := fun d os => ((below_regrown wr d os).cell (p := ⟨w.heap.size, 2, none⟩) (block_lt_of_cell z2)).trans z2
          refine wp_region_spec 11 [] [] (by kernel_rfl) (by kernel_rfl) (by kernel_rfl) (by intro t ht; cases ht) ?_
          simp only [List.take_succ_cons, List.take_zero, List.drop_succ_cons, List.drop_zero]
          repeat (refine wpS_step (by rfl) (fun K hK => ?_); go_simp; first | (refine hK _ ?_; clear hK K) | (apply Exists.intro; refine ⟨fun _ => ?_, hK _ ?_⟩; (with_reducible exact WH.out _ _); clear hK K))
          refine wpS_nil ?_
          intro W5 vs5 hl hv
          have hb5 := later_below.1 hl
          have B5 := Lib.hid (hbq.out.trans (hb5.mono hbq.out.size))
          have RR := Lib.hid (R3.out k lt)
          have RN := Lib.hid hr.out
          clear hl hv hb5 g0 g2 WH
          simp only [fillA]
          cases hq : rowR (rowAt s k) with
          | true =>
            have RQ : Hid (∀ y, y < k + 1 → rowR (rowAt s y) = true) := Lib.hid (fun y hy => by
              by_cases e : y = k
              · rw [e]; exact hq
              · exact RN.out y (by omega))
            clear hq
            go_wp2_with fail
            go_roundw
            case rel => exact ⟨k + 1, by omega, by go_num, RQ, B5⟩
            case measure => simp [intOf]; omega
          | false =>
            have R := Lib.hid (RR.out hq)
            clear hq
            go_wp2_with fail
            go_ret
            exact ⟨ret_bool (by rw [R.out]), BQ.out.trans (B5.out.mono BQ.out.size)⟩
        · have e : k = H := by omega
          subst e
          have R := Lib.hid (R6.out hr.out)
          have BB := Lib.hid (BQ.out.trans (hbq.out.mono BQ.out.size))
          clear hr hbq
          generalize s.shown = sn at *
          generalize s.x = X at *
          generalize s.y = Y at *
          cases sn with
          | false =>
            by_cases x0 : X = 0
            · by_cases y0 : Y = 0
              · have e1 : (X == 0) = true := beq_iff_eq.2 x0
                have e2 : (Y == 0) = true := beq_iff_eq.2 y0
                have RC : Hid (r = true) := Lib.hid (by rw [R.out, CU.out, x0, y0]; rfl)
                clear x0 y0
                go_wp2_with fail
                go_ret
                exact ⟨ret_bool (by rw [RC.out]), BB.out⟩
              · have e1 : (X == 0) = true := beq_iff_eq.2 x0
                have e2 : (Y == 0) = false := beq_eq_false_iff_ne.2 y0
                have RC : Hid (r = false) := Lib.hid (by rw [R.out, CU.out, decide_eq_false y0]; simp)
                clear x0 y0
                go_wp2_with fail
                go_ret
                exact ⟨ret_bool (by rw [RC.out]), BB.out⟩
            · have e1 : (X == 0) = false := beq_eq_false_iff_ne.2 x0
              have RC : Hid (r = false) := Lib.hid (by rw [R.out, CU.out, decide_eq_false x0]; simp)
              clear x0
              go_wp2_with fail
              go_ret
              exact ⟨ret_bool (by rw [RC.out]), BB.out⟩
          | true =>
            have CU2 : Hid (r = (decide (0 ≤ X) && decide (X < (W : Int)) && decide (0 ≤ Y) && decide (Y < (k : Int)))) := Lib.hid (by rw [R.out, CU.out, if_pos rfl])
            by_cases x0 : 0 ≤ X
            · by_cases x1 : X < (W : Int)
              · by_cases y0 : 0 ≤ Y
                · by_cases y1 : Y < (k : Int)
                  · have RC : Hid (r = true) := Lib.hid (by rw [CU2.out, decide_eq_true x0, decide_eq_true x1, decide_eq_true y0, decide_eq_true y1]; rfl)
                    go_wp2_with fail
                    go_ret
                    exact ⟨ret_bool (by rw [RC.out]), BB.out⟩
                  · have RC : Hid (r = false) := Lib.hid (by rw [CU2.out, decide_eq_false y1]; simp)
                    go_wp2_with fail
                    go_ret
                    exact ⟨ret_bool (by rw [RC.out]), BB.out⟩
                · have RC : Hid (r = false) := Lib.hid (by rw [CU2.out, decide_eq_false y0]; simp)
                  go_wp2_with fail
                  go_ret
                  exact ⟨ret_bool (by rw [RC.out]), BB.out⟩
              · have RC : Hid (r = false) := Lib.hid (by rw [CU2.out, decide_eq_false x1]; simp)
                go_wp2_with fail
                go_ret
                exact ⟨ret_bool (by rw [RC.out]), BB.out⟩
            · have RC : Hid (r = false) := Lib.hid (by rw [CU2.out, decide_eq_false x0]; simp)
              go_wp2_with fail
              go_ret
              exact ⟨ret_bool (by rw [RC.out]), BB.out⟩
    · have R := Lib.hid (R2.out hn)
      go_enter Tryz.func35, Tryz.ntmps35
      go_wp2_with fail
      rw [← hQ]
      clear hQ
      refine (SZ.out _).mono ?_; rintro e w1 ⟨rfl, rfl⟩
      have hn' : ((N : Int) == (M : Int)) = false := by simpa using hn
      go_wp2_with fail
      go_ret
      exact ⟨ret_bool (by rw [R.out]), BQ.out⟩

set_option maxHeartbeats 4000000 in
theorem d_Blank (s : Sty) : Gives 67 #[styV s.fg s.bg s.at_] (.agg #[.string ⟨#[32]⟩, .int .i8 1, .int .i32 (countS s).fg, .int .i32 (countS s).bg, .int .u8 (bI (countS s).at_)]) := by
  intro w
  have OV := Lib.hid (over0 s)
  generalize countS s = t at *
  go_enter Tryz.func67, Tryz.ntmps67
  go_wp2_with fail
  refine (OV.out _).mono ?_; rintro e w1 ⟨rfl, hb1⟩
  have K : C5 w1 (w.heap.size + 1) (.string ⟨#[]⟩) (.int .i8 0) (.int .i32 0) (.int .i32 0) (.int .u8 0) := C5.keep (by constructor <;> simp [go_sem]) hb1 (by simp)
  have F : ∀ k, w1.frozen? ⟨w.heap.size + 1, k, none⟩ = false := fun k => (hb1.frozen (p := ⟨w.heap.size + 1, k, none⟩) (by simp)).trans (by simp [go_sem])
  have HB := Lib.hid (show Below w.heap.size w w1 from below_call (by go_grown) (by simp; omega) hb1)
  clear hb1
  obtain ⟨k0, k1, k2, k3, k4⟩ := K
  have f0 := F 0
  have f1 := F 1
  have f2 := F 2
  have f3 := F 3
  have f4 := F 4
  clear F
  go_wp2_with fail
  refine bodyPost_ret (v := .agg #[.string ⟨#[32]⟩, .int .i8 1, .int .i32 t.fg, .int .i32 t.bg, .int .u8 (bI t.at_)]) (by simp [results, Tryz.results67, go_sem, k0, k1, k2, k3, k4]) rfl ⟨rfl, ?_⟩
  repeat (first | with_reducible exact HB.out | refine Below.setCell ?_ (by first | exact Nat.le_refl _ | exact Nat.le_succ _) _)
end Go.Proofs.YtkllilehdpdbdaaGreatDoor
