/- The numbers that make one style of another, the reference: Params. -/
import Derived.Test.YthcdcbibbfdjmaaDoorStyEg
namespace Go.Proofs.YthcdcbibbfdjmaaDoor
open Go Go.RowKit Go.Sort
set_option linter.unusedVariables false

theorem one_len (a b : Sty) : (oneL a b).length ≤ 18 := by
  have e : oneL a b = preL a.at_ b.at_ ++ (if a.fg = b.fg then [] else colL b.fg 30) ++ (if a.bg = b.bg then [] else colL b.bg 40) := by unfold oneL preL; simp [List.append_assoc]
  have c1 : (if a.fg = b.fg then [] else colL b.fg 30).length ≤ 5 := by split; simp; exact col_len _ _
  have c2 : (if a.bg = b.bg then [] else colL b.bg 40).length ≤ 5 := by split; simp; exact col_len _ _
  have := pre_len a.at_ b.at_
  rw [e, List.length_append, List.length_append]
  omega
theorem two_len' (b : Sty) : (twoL b).length ≤ 19 := by
  have c1 : (if b.fg = 0 then [] else colL b.fg 30).length ≤ 5 := by split; simp; exact col_len _ _
  have c2 : (if b.bg = 0 then [] else colL b.bg 40).length ≤ 5 := by split; simp; exact col_len _ _
  have s := (set_mask b.at_).2.2
  unfold twoL
  rw [List.length_append, List.length_append, List.length_append, List.length_singleton]
  omega

set_option maxHeartbeats 8000000 in
set_option maxRecDepth 100000 in
theorem ref_Params (f t : Sty) (hff : col32 f.fg) (hfb : col32 f.bg) (htf : col32 t.fg) (htb : col32 t.bg) (w : World) : Calls Tryd.prog 15 #[styV f.fg f.bg f.at_, styV t.fg t.bg t.at_] w (IntRet w (paramsL f t)) := by
  have C1 := Lib.hid (ref_Counts f.fg f.bg f.at_ hff hfb)
  have C2 := Lib.hid (ref_Counts t.fg t.bg t.at_ htf htb)
  have D1 := Lib.hid (fun W => ref_differing (countS f) (countS t) (inSty_pl _) (inSty_pl _) W)
  have D2 := Lib.hid (fun W => ref_anew (countS t) (inSty_pl _) (inSty_pl _) W)
  have R1 := Lib.hid (one_range (countS f) (countS t) (inSty_pl _) (inSty_pl _))
  have R2 := Lib.hid (two_range (countS t) (inSty_pl _) (inSty_pl _))
  have L1 := Lib.hid (one_len (countS f) (countS t))
  have L2 := Lib.hid (two_len' (countS t))
  have PB := Lib.hid (params_bytes f t)
  clear hff hfb htf htb
  have e1 : countS f = ⟨plC f.fg, plC f.bg, f.at_⟩ := rfl
  have e2 : countS t = ⟨plC t.fg, plC t.bg, t.at_⟩ := rfl
  rw [e1, e2] at PB D1 R1 L1
  rw [e2] at D2 R2 L2
  clear e1 e2
  obtain ⟨ff, fb, fa⟩ := f
  obtain ⟨tf, tb, ta⟩ := t
  simp only at C1 C2 D1 D2 R1 R2 L1 L2 PB ⊢
  generalize paramsL ⟨ff, fb, fa⟩ ⟨tf, tb, ta⟩ = L at *
  generalize plC ff = pf at *
  generalize plC fb = pb at *
  generalize plC tf = qf at *
  generalize plC tb = qb at *
  generalize oneL ⟨pf, pb, fa⟩ ⟨qf, qb, ta⟩ = ONE at *
  generalize twoL ⟨qf, qb, ta⟩ = TWO at *
  go_enter Tryd.func15, Tryd.ntmps15
  go_wp2_with fail
  refine (C1.out _).mono ?_; rintro e w1 ⟨rfl, hb1⟩
  have q1 : C3 w1 (w.heap.size + 1) (.int .i32 tf) (.int .i32 tb) (.int .u8 (bI ta)) := C3.keep (by constructor <;> simp [go_sem]) hb1 (by simp)
  have hB1 : Below w.heap.size w w1 := below_call (by go_grown) (by simp; omega) hb1
  have l1 := q1.lt
  obtain ⟨c0, c1, c2, f0, f1, f2⟩ := q1
  clear hb1
  go_wp2_with fail
  refine (C2.out _).mono ?_; rintro e' w2 ⟨rfl, hb2⟩
  have k1 : C3 w2 w1.heap.size (.int .i32 pf) (.int .i32 pb) (.int .u8 (bI fa)) := C3.keep (by constructor <;> simp [go_sem]) hb2 (by simp)
  have hB2 : Below w.heap.size w w2 := below_call (hB1.alloc (by omega) _) (by simp; omega) hb2
  have l2 := k1.lt
  have K1 := Lib.hid (k1.alloc (.cells #[.int .i32 qf, .int .i32 qb, .int .u8 (bI ta)] 24))
  have K2 : Hid (C3 (w2.alloc (.cells #[.int .i32 qf, .int .i32 qb, .int .u8 (bI ta)] 24)) w2.heap.size (.int .i32 qf) (.int .i32 qb) (.int .u8 (bI ta))) := Lib.hid (by constructor <;> simp [go_sem])
  have HB := Lib.hid (hB2.alloc (by omega) (.cells #[.int .i32 qf, .int .i32 qb, .int .u8 (bI ta)] 24))
  obtain ⟨b1, hb1⟩ : ∃ b, b = w1.heap.size := ⟨_, rfl⟩
  obtain ⟨b2, hb2'⟩ : ∃ b, b = w2.heap.size := ⟨_, rfl⟩
  rw [← hb1] at K1
  rw [← hb2'] at K2
  obtain ⟨β, hβ⟩ : ∃ β : Bool, β = decide ((⟨pf, pb, fa⟩ : Sty) = ⟨qf, qb, ta⟩) := ⟨_, rfl⟩
  have HE := Lib.hid hβ
  clear hβ hb2 hB1 hB2 c0 c1 c2 f0 f1 f2 k1
  go_upto_region 3 with fail
  rw [← hb1, ← hb2']
  obtain ⟨W, hW⟩ : ∃ W, W = w2.alloc (.cells #[.int .i32 qf, .int .i32 qb, .int .u8 (bI ta)] 24) := ⟨_, rfl⟩
  rw [← hW] at K1 K2 HB ⊢
  clear hW hb1 hb2' l1 l2
  obtain ⟨c0, c1, c2, f0, f1, f2⟩ := K1.out
  obtain ⟨d0, d1, d2, i0, i1, i2⟩ := K2.out
  go_cut [17] from 15 to 17 (fun s17 wx => s17 = .bool β ∧ wx = W)
  case first =>
    by_cases e1 : pf = qf
    all_goals by_cases e2 : pb = qb
    all_goals by_cases e3 : fa = ta
    all_goals
      first
        | (have hb : β = true := by rw [HE.out, e1, e2, e3]; exact decide_eq_true rfl)
        | (have hb : β = false := by
            rw [HE.out]
            apply decide_eq_false
            intro h
            injection h with h1 h2 h3
            first | exact e1 h1 | exact e2 h2 | exact e3 h3)
      have hb := Lib.hid hb
      first | subst e3 | (have n3 : ¬ bI fa = bI ta := fun h => e3 (bI_inj h))
      first | subst e1 | skip
      first | subst e2 | skip
      go_wp2_with fail
      go_meet
      exact ⟨by rw [hb.out], rfl⟩
  case rest =>
    obtain ⟨rfl, rfl⟩ := hcut
    cases β with
    | true =>
      have L0 : Hid (L = []) := Lib.hid (by rw [PB.out, if_pos (of_decide_eq_true HE.out.symm)])
      go_wp2_with fail
      go_ret
      exact ⟨_, rfl, by rw [L0.out]; exact World.ownsRow_nil _ _ _ _, HB.out⟩
    | false =>
      have PB' : Hid (L = if bytesL TWO < bytesL ONE then TWO else ONE) := Lib.hid (by rw [PB.out, if_neg (of_decide_eq_false HE.out.symm)])
      clear PB HE
      go_wp2_with fail
      refine (D1.out _).mono ?_; rintro e' w3 ⟨v1, rfl, o1, hb3⟩
      obtain ⟨A1, n1, rfl⟩ := own_slice' o1
      obtain ⟨g0, g1, g2, j0, j1, j2⟩ := K2.out.keep hb3 K2.out.lt
      have HB3 := Lib.hid (below_call HB.out HB.out.size hb3)
      have O1 := Lib.hid o1
      clear c0 c1 c2 f0 f1 f2 d0 d1 d2 i0 i1 i2 o1
      go_wp2_with fail
      refine (D2.out _).mono ?_; rintro e' w4 ⟨v2, rfl, o2, hb4⟩
      obtain ⟨A2, n2, rfl⟩ := own_slice' o2
      have HB4 := Lib.hid (below_call HB3.out HB3.out.size hb4)
      have O1' := Lib.hid (own_call O1.out hb4)
      have O2 := Lib.hid (own_lower o2 (show w.heap.size ≤ w3.heap.size from HB3.out.size))
      have O1'' := Lib.hid (own_lower O1'.out (show w.heap.size ≤ wc.heap.size from HB.out.size))
      have B1 := Lib.hid (ref_Bytes A1 n1 ONE R1.out (by have := L1.out; omega) w4 (Sees.of_own O1'.out))
      have B2 := Lib.hid (ref_Bytes A2 n2 TWO R2.out (by have := L2.out; omega) w4 (Sees.of_own O2.out))
      clear hb3 hb4 o2 g0 g1 g2 j0 j1 j2
      go_wp2_with fail
      refine B1.out.mono ?_; rintro e' w5 ⟨rfl, rfl⟩
      go_wp2_with fail
      refine B2.out.mono ?_; rintro e' w5 ⟨rfl, rfl⟩
      by_cases c : bytesL TWO < bytesL ONE
      · have E : Hid (L = TWO) := Lib.hid (by rw [PB'.out, if_pos c])
        go_wp2_with fail
        go_ret
        exact ⟨_, rfl, by rw [E.out]; exact O2.out, HB4.out⟩
      · have E : Hid (L = ONE) := Lib.hid (by rw [PB'.out, if_neg c])
        go_wp2_with fail
        go_ret
        exact ⟨_, rfl, by rw [E.out]; exact O1''.out, HB4.out⟩
end Go.Proofs.YthcdcbibbfdjmaaDoor
