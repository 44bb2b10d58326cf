/- The law StyleCounts: the walk; the law's own counts. -/
import Derived.Test.YthcdcbibbfdjmaaDoorStyQ
import Derived.Test.YthcdcbibbfdjmaaDoorGen
import Derived.Deep.DeepCutAuto
namespace Go.Proofs.YthcdcbibbfdjmaaDoor
open Go.RowKit Go.Sort
set_option linter.unusedVariables false

set_option maxHeartbeats 4000000 in
theorem law_counts (s : Sty) : Gives 26 #[styV s.fg s.bg s.at_] (styV (countS s).fg (countS s).bg (countS s).at_) := by
  intro w
  have C := Lib.hid (fun W => st_Over s none 0 [] W (fun h => absurd rfl h) (by decide))
  have E : Hid (overL s [] = countS s) := Lib.hid rfl
  rw [E.out] at C
  clear E
  generalize countS s = r at *
  go_enter Tryd.func26, Tryd.ntmps26
  go_wp2_with fail
  refine (C.out _).mono ?_; rintro e w1 ⟨rfl, hb1⟩
  have q2 : C3 w1 (w.heap.size + 1) (.int .i32 0) (.int .i32 0) (.int .u8 0) := C3.keep (by constructor <;> simp [go_sem]) hb1 (by simp)
  have hB1 : Below w.heap.size w w1 := below_call (by go_grown) (by simp; omega) hb1
  clear hb1
  obtain ⟨z0, z1, z2, y0, y1, y2⟩ := q2
  go_wp2_with fail
  exact bodyPost_ret (v := styV r.fg r.bg r.at_) (by simp [results, Tryd.results26, go_sem, z0, z1, z2]) rfl ⟨rfl, below_put3 hB1 (Nat.le_succ _) _ _ _⟩

/-- does a colour count? -/
def okC (c : Int) : Bool := rightB c && (c != 1)
theorem okC_yes {c : Int} (h : okC c = true) : plC c = c := by
  unfold okC at h
  rw [Bool.and_eq_true, bne_iff_ne] at h
  unfold plC cnt
  rw [if_neg h.2, if_pos h.1]
theorem okC_no {c : Int} (h : okC c = false) : plC c = 0 ∧ c ≠ 0 := by
  unfold okC at h
  refine ⟨?_, fun e => by subst e; simp [rightB] at h⟩
  unfold plC cnt
  by_cases e : c = 1
  · rw [if_pos e]
  · rw [if_neg e]
    have : (c != 1) = true := by rw [bne_iff_ne]; exact e
    rw [this, Bool.and_true] at h
    rw [if_neg (by rw [h]; decide)]

set_option maxHeartbeats 8000000 in
set_option maxRecDepth 100000 in
theorem styleCounts_walk (s : Sty) (w : World) (A : ∀ W, Below w.heap.size w W → Calls Tryd.prog 21 #[] W fun e w' => e = .returned (.bool true) ∧ Below W.heap.size W w') :
    Calls Tryd.prog 10 #[styV s.fg s.bg s.at_] w fun e w' => e = .returned (.bool true) ∧ Below w.heap.size w w' := by
  have A := Lib.hid A
  have C1 := Lib.hid (law_counts s)
  have C2 : Hid (Gives 26 #[styV (countS s).fg (countS s).bg (countS s).at_] (styV (countS s).fg (countS s).bg (countS s).at_)) := Lib.hid (by
    have := law_counts (countS s)
    rw [count_count] at this
    exact this)
  have C3' : Hid (Gives 31 #[styV s.fg s.bg s.at_, .int .i64 3] (styV (countS s).fg (countS s).bg (countS s).at_)) := Lib.hid (by
    have := st_Reduce s 3
    rw [reduce_full s 3 (by decide)] at this
    exact this)
  have RA : (countS s).at_ = s.at_ := rfl
  have RF : (countS s).fg = plC s.fg := rfl
  have RB : (countS s).bg = plC s.bg := rfl
  rw [RA, RF, RB] at C1 C2 C3'
  clear RA RF RB
  go_enter Tryd.func10, Tryd.ntmps10
  go_wp2_with fail
  refine (C1.out _).mono ?_; rintro e w1 ⟨rfl, hb1⟩
  have q1 : C3 w1 w.heap.size (.int .i32 s.fg) (.int .i32 s.bg) (.int .u8 (bI s.at_)) := C3.keep (by constructor <;> simp [go_sem]) hb1 (by simp)
  have hB1 : Below w.heap.size w w1 := below_call (by go_grown) (by simp) hb1
  have l1 := q1.lt
  have K0 := Lib.hid (q1.alloc (.cells #[.int .i32 (plC s.fg), .int .i32 (plC s.bg), .int .u8 (bI s.at_)] 24))
  have HB := Lib.hid (hB1.alloc (by omega) (.cells #[.int .i32 (plC s.fg), .int .i32 (plC s.bg), .int .u8 (bI s.at_)] 24))
  have K1 : Hid (C3 (w1.alloc (.cells #[.int .i32 (plC s.fg), .int .i32 (plC s.bg), .int .u8 (bI s.at_)] 24)) w1.heap.size (.int .i32 (plC s.fg)) (.int .i32 (plC s.bg)) (.int .u8 (bI s.at_))) := Lib.hid (by constructor <;> simp [go_sem])
  obtain ⟨c0, c1, c2, f0, f1, f2⟩ := q1
  clear hb1 hB1
  go_upto_region 2 with fail
  go_cut [4] from 8 to 16 (fun s4 wx => s4 = .bool (okC s.fg) ∧ wx = w1.alloc (.cells #[.int .i32 (plC s.fg), .int .i32 (plC s.bg), .int .u8 (bI s.at_)] 24))
  case first =>
    have T := tint_Right s.fg
    by_cases e1 : s.fg = 1
    all_goals
      have E : Hid (okC s.fg = (rightB s.fg && (s.fg != 1))) := Lib.hid rfl
      first | (have g1 : (s.fg != 1) = false := by rw [e1]; rfl) | (have g1 : (s.fg != 1) = true := by rw [bne_iff_ne]; exact e1)
      rw [g1] at E
      clear e1
      cases h : rightB s.fg
      all_goals
        rw [h] at E T
        have T := Lib.hid T
        go_wp2_with fail
        refine (T.out _).mono ?_; rintro e' w2 ⟨rfl, rfl⟩
        go_wp2_with fail
        go_meet
        exact ⟨by rw [E.out]; rfl, rfl⟩
  case rest =>
    obtain ⟨rfl, rfl⟩ := hcut
    go_upto_region 3 with fail
    go_cut [5] from 17 to 24 (fun s5 wx => s5 = .bool (okC s.bg) ∧ wx = w1.alloc (.cells #[.int .i32 (plC s.fg), .int .i32 (plC s.bg), .int .u8 (bI s.at_)] 24))
    case first =>
      have T := tint_Right s.bg
      by_cases e1 : s.bg = 1
      all_goals
        have E : Hid (okC s.bg = (rightB s.bg && (s.bg != 1))) := Lib.hid rfl
        first | (have g1 : (s.bg != 1) = false := by rw [e1]; rfl) | (have g1 : (s.bg != 1) = true := by rw [bne_iff_ne]; exact e1)
        rw [g1] at E
        clear e1
        cases h : rightB s.bg
        all_goals
          rw [h] at E T
          have T := Lib.hid T
          go_wp2_with fail
          refine (T.out _).mono ?_; rintro e' w2 ⟨rfl, rfl⟩
          go_wp2_with fail
          go_meet
          exact ⟨by rw [E.out]; rfl, rfl⟩
    case rest =>
      obtain ⟨rfl, rfl⟩ := hcut
      obtain ⟨W, hW⟩ : ∃ W, W = w1.alloc (.cells #[.int .i32 (plC s.fg), .int .i32 (plC s.bg), .int .u8 (bI s.at_)] 24) := ⟨_, rfl⟩
      rw [← hW] at K0 K1 HB ⊢
      clear hW c0 c1 c2 f0 f1 f2
      have AL := Lib.hid (fun d os => calls_later (A.out (grow (redrawn W d) os) (HB.out.trans ((below_regrown W d os).mono HB.out.size))))
      have g00 := fun d os => ((K0.out).regrown d os).c0
      have g01 := fun d os => ((K0.out).regrown d os).c1
      have g02 := fun d os => ((K0.out).regrown d os).c2
      have g10 := fun d os => ((K1.out).regrown d os).c0
      have g11 := fun d os => ((K1.out).regrown d os).c1
      have g12 := fun d os => ((K1.out).regrown d os).c2
      have D1 := Lib.hid (fun W => C2.out.later (w := W))
      have D2 := Lib.hid (fun W => C3'.out.later (w := W))
      clear C1 C2 C3' A K0 K1
      go_upto_region 4 with fail
      have ff : ∀ a : Bool, (a == a) = true := fun a => by cases a <;> rfl
      cases hf : okC s.fg
      all_goals cases hb : okC s.bg
      all_goals
        first | (have hf1 := okC_yes hf; have hf3 := True.intro) | (obtain ⟨hf1, hf2⟩ := okC_no hf; have hf3 : ((0 : Int) == s.fg) = false := by simpa using Ne.symm hf2)
        first | (have hb1 := okC_yes hb; have hb3 := True.intro) | (obtain ⟨hb1, hb2⟩ := okC_no hb; have hb3 : ((0 : Int) == s.bg) = false := by simpa using Ne.symm hb2)
        rw [hf1] at g10 D1 D2
        rw [hb1] at g11 D1 D2
        clear hf hb hf1 hb1
        refine wp_region_spec 58 [] [] (by kernel_rfl) (by kernel_rfl) (by kernel_rfl) (by intro t ht; cases ht) ?_
        simp only [List.take_succ_cons, List.take_zero, List.drop_succ_cons, List.drop_zero]
        repeat (refine wpS_step (by rfl) (fun K hK => ?_); go_simp; first | (refine hK _ ?_; clear hK K) | (apply Exists.intro; refine ⟨fun _ => ?_, hK _ ?_⟩; (first | with_reducible exact D1.out _ | with_reducible exact D2.out _ | with_reducible exact AL.out _ _); clear hK K))
        refine wpS_nil ?_
        intro W5 vs5 hl hv
        have hb5 := later_below.1 hl
        simp only [fillA]
        go_wp2_with fail
        go_ret
        exact ⟨rfl, HB.out.trans (hb5.mono HB.out.size)⟩
end Go.Proofs.YthcdcbibbfdjmaaDoor
