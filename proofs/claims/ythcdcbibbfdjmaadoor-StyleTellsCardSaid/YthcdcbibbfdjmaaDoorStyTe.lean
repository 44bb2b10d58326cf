/- The law StyleTells: the walk. -/
import Derived.Test.YthcdcbibbfdjmaaDoorStyCo
import Derived.Test.YthcdcbibbfdjmaaDoorStyG
namespace Go.Proofs.YthcdcbibbfdjmaaDoor
open Go.RowKit Go.Sort
set_option linter.unusedVariables false

set_option maxHeartbeats 8000000 in
set_option maxRecDepth 100000 in
theorem styleTells_walk (f t : Sty) (w : World) (E : EnvS w) (A : ∀ W, Below w.heap.size w W → Calls Tryd.prog 21 #[] W fun e w' => e = .returned (.bool true) ∧ Below W.heap.size W w') :
    Calls Tryd.prog 6 #[styV f.fg f.bg f.at_, styV t.fg t.bg t.at_] w fun e w' => e = .returned (.bool true) ∧ Below w.heap.size w w' := by
  have A := Lib.hid A
  have E := Lib.hid E
  have C1 := Lib.hid (st_Params f t)
  have C2 := Lib.hid (fun W => (law_counts f).later (w := W))
  have C3' := Lib.hid (fun W => (law_counts t).later (w := W))
  have L18 := Lib.hid (params_len f t)
  have LN := Lib.hid (params_nil f t)
  have AP : Hid (∀ A c W, (paramsL f t).length ≤ c → EnvS W → Sees W W.heap.size A (ints (paramsL f t)) → paramsL f t ≠ [] → Calls Tryd.prog 23 #[styV f.fg f.bg f.at_, .slice A (paramsL f t).length c] W fun e w' => e = .returned (styV (countS t).fg (countS t).bg (countS t).at_) ∧ Below W.heap.size W w') := Lib.hid (fun A c W hc E h ne => by
    have := st_Apply f A c (paramsL f t) (by have := params_len f t; omega) hc W E h
    rw [tell_run f t ne] at this
    exact this)
  generalize paramsL f t = L at *
  generalize countS f = F at *
  generalize countS t = T at *
  go_enter Tryd.func6, Tryd.ntmps6
  go_wp2_with fail
  refine (C1.out _ (E.out.of_below (by go_grown) (Nat.le_refl _))).mono ?_
  rintro e w1 ⟨v, rfl, ho, hb1⟩
  have q0 : C3 w1 w.heap.size (.int .i32 f.fg) (.int .i32 f.bg) (.int .u8 (bI f.at_)) := C3.keep (by constructor <;> simp [go_sem]) hb1 (by simp; omega)
  have q1 : C3 w1 (w.heap.size + 1) (.int .i32 t.fg) (.int .i32 t.bg) (.int .u8 (bI t.at_)) := C3.keep (by constructor <;> simp [go_sem]) hb1 (by simp)
  have HB := Lib.hid (show Below w.heap.size w w1 from below_call (by go_grown) (by simp; omega) hb1)
  obtain ⟨g, c, rfl⟩ := own_slice' ho
  have SS := Lib.hid (Sees.of_own ho)
  have hc : L.length ≤ c := by
    rcases (own_form ho).2 with ⟨q, z⟩ | ⟨g', c', q, _, _, l, _⟩
    · omega
    · cases q; exact l
  obtain ⟨n, hn⟩ : ∃ n, n = L.length := ⟨_, rfl⟩
  have AP := AP.out g c
  rw [← hn] at hc AP L18 ⊢
  have HN := Lib.hid hn
  have AP := Lib.hid AP
  have HC := Lib.hid hc
  have n18 := L18.out
  have EV := Lib.hid (E.out.of_below HB.out (Nat.le_refl _))
  clear ho hb1 hn hc
  have AL := Lib.hid (fun d os => calls_later (A.out (grow (redrawn w1 d) os) (HB.out.trans ((below_regrown w1 d os).mono HB.out.size))))
  have Q0 := Lib.hid q0
  have Q1 := Lib.hid q1
  obtain ⟨β, hβ⟩ : ∃ β : Bool, β = decide (F = T) := ⟨_, rfl⟩
  have HE := Lib.hid hβ
  clear hβ
  go_upto_region 2 with fail
  go_cut [6] from 7 to 14 (fun s6 wx => s6 = .bool β ∧ Below w1.heap.size w1 wx)
  case first =>
    have g00 := fun d os => ((q0).regrown d os).c0
    have g01 := fun d os => ((q0).regrown d os).c1
    have g02 := fun d os => ((q0).regrown d os).c2
    have g10 := fun d os => ((q1).regrown d os).c0
    have g11 := fun d os => ((q1).regrown d os).c1
    have g12 := fun d os => ((q1).regrown d os).c2
    obtain ⟨Ff, Fb, Fa⟩ := F
    obtain ⟨Tf, Tb, Ta⟩ := T
    by_cases e1 : Ff = Tf
    all_goals by_cases e2 : Fb = Tb
    all_goals by_cases e3 : Fa = Ta
    all_goals
      first
        | (have hb : β = true := by rw [HE.out, e1, e2, e3]; exact decide_eq_true rfl)
        | (have hb : β = false := by
            rw [HE.out]
            apply decide_eq_false
            intro h
            injection h with h1 h2 h3
            first | exact e1 h1 | exact e2 h2 | exact e3 h3)
      have hb := Lib.hid hb
      first | subst e3 | (have n3 : ¬ bI Fa = bI Ta := fun h => e3 (bI_inj h))
      first | subst e1 | skip
      first | subst e2 | skip
      refine wp_region_spec 5 [] [] (by kernel_rfl) (by kernel_rfl) (by kernel_rfl) (by intro t ht; cases ht) ?_
      simp only [List.take_succ_cons, List.take_zero, List.drop_succ_cons, List.drop_zero]
      repeat (refine wpS_step (by rfl) (fun K hK => ?_); go_simp; first | (refine hK _ ?_; clear hK K) | (apply Exists.intro; refine ⟨fun _ => ?_, hK _ ?_⟩; (first | with_reducible exact C2.out _ | with_reducible exact C3'.out _); clear hK K))
      refine wpS_nil ?_
      intro W5 vs5 hl hv
      have hb5 := later_below.1 hl
      simp only [fillA]
      go_wp2_with fail
      go_meet
      exact ⟨by rw [hb.out], hb5⟩
  case rest =>
    obtain ⟨rfl, hb2⟩ := hcut
    have HB2 := Lib.hid (HB.out.trans (hb2.mono HB.out.size))
    have CA := A.out wc HB2.out
    have SS2 := (SS.out.below hb2 (Nat.le_refl _)).more hb2.size
    have EV2 := EV.out.of_below hb2 (Nat.le_refl _)
    obtain ⟨a0, a1, a2, f0, f1, f2⟩ := q0.keep hb2 q0.lt
    obtain ⟨b0, b1, b2, i0, i1, i2⟩ := q1.keep hb2 q1.lt
    have P0 := Lib.hid (q0.keep hb2 q0.lt)
    have P1 := Lib.hid (q1.keep hb2 q1.lt)
    have CA := Lib.hid CA
    have EV2 := Lib.hid EV2
    have SS2 := Lib.hid SS2
    clear q0 q1 hb2
    have nb : β = decide (n = 0) := by
      rw [HE.out, decide_eq_decide, ← LN.out, HN.out, List.length_eq_zero_iff]
    cases β with
    | true =>
      have n0 : n = 0 := of_decide_eq_true nb.symm
      clear nb
      subst n0
      go_wp2_with fail
      refine CA.out.mono ?_; rintro e' w3 ⟨rfl, hb3⟩
      have HB3 := Lib.hid (below_call HB2.out HB2.out.size hb3)
      go_upto_region 5 with fail
      refine wp_region_spec 10 [] [] (by kernel_rfl) (by kernel_rfl) (by kernel_rfl) (by intro t ht; cases ht) ?_
      simp only [List.take_succ_cons, List.take_zero, List.drop_succ_cons, List.drop_zero]
      repeat (refine wpS_step (by rfl) (fun K hK => ?_); go_simp; first | (refine hK _ ?_; clear hK K) | (apply Exists.intro; refine ⟨fun _ => ?_, hK _ ?_⟩; (fail); clear hK K))
      refine wpS_nil ?_
      intro W5 vs5 hl hv
      have hb5 := later_below.1 hl
      simp only [fillA]
      go_wp2_with fail
      go_ret
      exact ⟨rfl, HB3.out.trans (hb5.mono HB3.out.size)⟩
    | false =>
      have n0 : ¬ n = 0 := of_decide_eq_false nb.symm
      clear nb
      have g1 : ((n : Int) == 0) = false := by simp; omega
      go_wp2_with fail
      refine CA.out.mono ?_; rintro e' w3 ⟨rfl, hb3⟩
      have HB3 := Lib.hid (below_call HB2.out HB2.out.size hb3)
      have EV3 := EV2.out.of_below hb3 (Nat.le_refl _)
      have SS3 := (SS2.out.below hb3 (Nat.le_refl _)).more hb3.size
      have LNN : Hid (L ≠ []) := Lib.hid (fun e => n0 (by rw [HN.out, e]; rfl))
      have AP3 := Lib.hid (fun d os => calls_later (AP.out (grow (redrawn w3 d) os) HC.out (EV3.of_below (below_regrown w3 d os) (Nat.le_refl _)) ((SS3.below (below_regrown w3 d os) (Nat.le_refl _)).more (below_regrown w3 d os).size) LNN.out))
      have p0 := P0.out.keep hb3 P0.out.lt
      have p1 := P1.out.keep hb3 P1.out.lt
      have g00 := fun d os => ((p0).regrown d os).c0
      have g01 := fun d os => ((p0).regrown d os).c1
      have g02 := fun d os => ((p0).regrown d os).c2
      have h10 := fun d os => ((p1).regrown d os).c0
      have h11 := fun d os => ((p1).regrown d os).c1
      have h12 := fun d os => ((p1).regrown d os).c2
      clear p0 p1 hb3 EV3 SS3 a0 a1 a2 f0 f1 f2 b0 b1 b2 i0 i1 i2
      go_upto_region 5 with fail
      refine wp_region_spec 10 [] [] (by kernel_rfl) (by kernel_rfl) (by kernel_rfl) (by intro t ht; cases ht) ?_
      simp only [List.take_succ_cons, List.take_zero, List.drop_succ_cons, List.drop_zero]
      repeat (refine wpS_step (by rfl) (fun K hK => ?_); go_simp; first | (refine hK _ ?_; clear hK K) | (apply Exists.intro; refine ⟨fun _ => ?_, hK _ ?_⟩; (first | with_reducible exact AP3.out _ _ | with_reducible exact C3'.out _); clear hK K))
      refine wpS_nil ?_
      intro W5 vs5 hl hv
      have hb5 := later_below.1 hl
      simp only [fillA]
      go_wp2_with fail
      go_ret
      exact ⟨rfl, HB3.out.trans (hb5.mono HB3.out.size)⟩
end Go.Proofs.YthcdcbibbfdjmaaDoor
