/- TapeJoined: the walk. -/
import Derived.Test.YtmaofighbpnbiaaGreatDoorYTqW
import Derived.Test.YtmaofighbpnbiaaGreatDoorYTqO
namespace Go.Proofs.YtmaofighbpnbiaaGreatDoor
open Go Go.RowKit Go.Sort
set_option linter.unusedVariables false
set_option linter.unusedSimpArgs false
section
theorem joinF_no : ∀ (ts : List (List Frm)) (out : List Frm), (joinF ts out).2 ≠ 0 → (joinF ts out).1 = []
 | [], out, h => absurd rfl h
 | t :: ts, out, h => by
  rw [joinF] at h ⊢
  split
  ·rfl
  ·rename_i c
   rw [if_neg c] at h
   exact joinF_no ts _ h
theorem joinT_no {ts : List (List Frm)} (h : (joinT ts).2 ≠ 0) : (joinT ts).1 = [] := by
 unfold joinT at h ⊢
 split
 ·rfl
 ·rename_i c
  rw [if_neg c] at h
  exact joinF_no _ _ h
theorem joinT_zero {ts : List (List Frm)} (h : (joinT ts).2 = 0) : joinT ts = ((joinT ts).1, 0) := by rw [← h]
theorem tps_new {w : World} (T : List TA) (h : ∀ t ∈ T, FrsD w w.heap.size t.A t.c t.L) (ln : T.length ≤ 100) : TpsD (w.alloc (.cells (T.map taV).toArray 24)) (w.alloc (.cells (T.map taV).toArray 24)).heap.size (some ⟨w.heap.size, 0, none⟩) T.length T := by
 have bu : Below w.heap.size w (w.alloc (.cells (T.map taV).toArray 24)) := (Below.refl _ w).alloc (Nat.le_refl _) _
 refine ⟨Nat.le_refl _, by omega, fun ne => ⟨_, rfl, by simp, fun j u hj => cells_new w (T.map taV) 24 j u hj⟩, fun t m => ((h t m).below bu (Nat.le_refl _)).more bu.size⟩
theorem JoinR.open {W w' : World} {T : List (List Frm)} {e : Ending} (h : JoinR W T e w') : ∃ A c L, e = .returned (.tuple #[.slice A L.length c, .int .i64 (joinT T).2]) ∧ Below W.heap.size W w' ∧ frms L = (joinT T).1 ∧ FrsD w' w'.heap.size A c L ∧ L.length ≤ 16384 := by
 obtain ⟨v, S, e1, b, s, f, l⟩ := h
 obtain ⟨A, c, ev⟩ := own_slcF s.own
 subst ev
 have fr := s.frs (by omega)
 exact ⟨A, c, segF S, e1, b, f, fr.2, l⟩
def JoinV (V : World) (ts : List (List Frm)) (e : Ending) (w' : World) : Prop := ∃ A c L, e = .returned (.tuple #[.slice A L.length c, .int .i64 (joinT ts).2]) ∧ Below V.heap.size V w' ∧ frms L = (joinT ts).1 ∧ FrsD w' w'.heap.size A c L ∧ L.length ≤ 16384
theorem t_JoinV (V : World) (T : List TA) (h : ∀ t ∈ T, FrsD V V.heap.size t.A t.c t.L) (ln : T.length ≤ 100) : Calls Tryz.prog 34 #[.slice (some ⟨V.heap.size, 0, none⟩) T.length T.length] (V.alloc (.cells (T.map taV).toArray 24)) (JoinV V (tpsF T)) := by
 refine (t_Join _ _ T _ _ (tps_new T h ln) (Nat.le_refl _)).mono ?_
 intro e w' hR
 obtain ⟨A, c, L, h1, h2, h3, h4, h5⟩ := hR.open
 have bu : Below V.heap.size V (V.alloc (.cells (T.map taV).toArray 24)) := (Below.refl _ V).alloc (Nat.le_refl _) _
 exact ⟨A, c, L, h1, bu.trans (h2.mono bu.size), h3, h4, h5⟩
theorem t_Join1 {V : World} {A1 : Option Addr} {c1 : Nat} {L1 : List FA} (h1 : FrsD V V.heap.size A1 c1 L1) : Calls Tryz.prog 34 #[.slice (some ⟨V.heap.size, 0, none⟩) 1 1] (V.alloc (.cells #[.slice A1 L1.length c1] 24)) (JoinV V [frms L1]) :=
 t_JoinV V [⟨A1, c1, L1⟩] (fun t m => by rw [List.mem_singleton.1 m]; exact h1) (by show 1 ≤ 100; decide)
theorem t_Join2 {V : World} {A1 A2 : Option Addr} {c1 c2 : Nat} {L1 L2 : List FA} (h1 : FrsD V V.heap.size A1 c1 L1) (h2 : FrsD V V.heap.size A2 c2 L2) : Calls Tryz.prog 34 #[.slice (some ⟨V.heap.size, 0, none⟩) 2 2] (V.alloc (.cells #[.slice A1 L1.length c1, .slice A2 L2.length c2] 24)) (JoinV V [frms L1, frms L2]) :=
 t_JoinV V [⟨A1, c1, L1⟩, ⟨A2, c2, L2⟩] (fun t m => by
  rcases List.mem_cons.1 m with rfl | m
  ·exact h1
  ·rw [List.mem_singleton.1 m]; exact h2) (by show 2 ≤ 100; decide)
theorem t_Join3 {V : World} {A1 A2 A3 : Option Addr} {c1 c2 c3 : Nat} {L1 L2 L3 : List FA} (h1 : FrsD V V.heap.size A1 c1 L1) (h2 : FrsD V V.heap.size A2 c2 L2) (h3 : FrsD V V.heap.size A3 c3 L3) : Calls Tryz.prog 34 #[.slice (some ⟨V.heap.size, 0, none⟩) 3 3] (V.alloc (.cells #[.slice A1 L1.length c1, .slice A2 L2.length c2, .slice A3 L3.length c3] 24)) (JoinV V [frms L1, frms L2, frms L3]) :=
 t_JoinV V [⟨A1, c1, L1⟩, ⟨A2, c2, L2⟩, ⟨A3, c3, L3⟩] (fun t m => by
  rcases List.mem_cons.1 m with rfl | m
  ·exact h1
  ·rcases List.mem_cons.1 m with rfl | m
   ·exact h2
   ·rw [List.mem_singleton.1 m]; exact h3) (by show 3 ≤ 100; decide)
theorem newC_both {w h : Int} {a t : List Frm} (ha : checkT a = 0) (ht : checkT t = 0) : newC w h t 3 = newC w h a 2 := by
 unfold newC
 rw [ha, ht]
 by_cases s : sizedB w h = false
 ·rw [if_pos s, if_pos s]
 ·rw [if_neg s, if_neg s, if_neg (by decide), if_neg (by decide), if_neg (by decide), if_neg (by decide)]
theorem flat_shift (b : Int) (l : List Frm) : (shiftL b l).flatMap (·.bs) = l.flatMap (·.bs) := by
 unfold shiftL
 rw [List.flatMap_map]
set_option maxHeartbeats 32000000 in
set_option maxRecDepth 100000 in
theorem tapeJoined_walk (w h : Int) (A1 : Option Addr) (c1 : Nat) (L1 : List FA) (A2 : Option Addr) (c2 : Nat) (L2 : List FA) (A3 : Option Addr) (c3 : Nat) (L3 : List FA) (W : World) (E : EnvV W) (F1 : FrsD W W.heap.size A1 c1 L1) (F2 : FrsD W W.heap.size A2 c2 L2) (F3 : FrsD W W.heap.size A3 c3 L3) :
  Calls Tryz.prog 12 #[.agg #[.int .i64 w, .int .i64 h], .slice A1 L1.length c1, .slice A2 L2.length c2, .slice A3 L3.length c3] W fun e w' => e = .returned (.bool true) ∧ Below W.heap.size W w' := by
 obtain ⟨Q, hQ⟩ : ∃ Q, Q = W.alloc (.cells #[.int .i64 w, .int .i64 h] 23) := ⟨_, rfl⟩
 have BQ : Below W.heap.size W Q := by rw [hQ]; exact (Below.refl _ W).alloc (Nat.le_refl _) _
 have KQ : Bk Q W.heap.size [.int .i64 w, .int .i64 h] 23 := by rw [hQ]; exact Bk.new W _ _
 have Y1 := Lib.hid (law_beyond A1 c1 L1 W.heap.size Q (F1.below BQ (Nat.le_refl _)))
 have Y2 := Lib.hid (law_beyond A2 c2 L2 W.heap.size Q (F2.below BQ (Nat.le_refl _)))
 have Y3 := Lib.hid (law_beyond A3 c3 L3 W.heap.size Q (F3.below BQ (Nat.le_refl _)))
 have AL := Lib.hid (law_alive Q (E.mv (Mv.below (F := []) BQ) (by simp)))
 have HE := Lib.hid E
 have H1 := Lib.hid F1
 have H2 := Lib.hid F2
 have H3 := Lib.hid F3
 have HBQ := Lib.hid BQ
 have HKQ := Lib.hid KQ
 have HQ := Lib.hid hQ
 obtain ⟨n1, hn1⟩ : ∃ n1, n1 = L1.length := ⟨_, rfl⟩
 obtain ⟨n2, hn2⟩ : ∃ n2, n2 = L2.length := ⟨_, rfl⟩
 obtain ⟨n3, hn3⟩ : ∃ n3, n3 = L3.length := ⟨_, rfl⟩
 have HN1 := Lib.hid hn1
 have HN2 := Lib.hid hn2
 have HN3 := Lib.hid hn3
 rw [← hn1] at Y1 ⊢
 rw [← hn2] at Y2 ⊢
 rw [← hn3] at Y3 ⊢
 obtain ⟨b1, hb1⟩ : ∃ b, b = beyB L1 := ⟨_, rfl⟩
 obtain ⟨b2, hb2⟩ : ∃ b, b = beyB L2 := ⟨_, rfl⟩
 obtain ⟨b3, hb3⟩ : ∃ b, b = beyB L3 := ⟨_, rfl⟩
 rw [← hb1] at Y1
 rw [← hb2] at Y2
 rw [← hb3] at Y3
 have HB1 := Lib.hid hb1
 have HB2 := Lib.hid hb2
 have HB3 := Lib.hid hb3
 clear hQ BQ KQ F1 F2 F3 E hn1 hn2 hn3 hb1 hb2 hb3
 go_enter Tryz.func12, Tryz.ntmps12
 go_upto_region 1 with fail
 rw [← HQ.out]
 clear HQ
 cases b1 with
 | true =>
  go_wp2_with fail
  refine Y1.out.mono ?_; rintro e w1 ⟨rfl, hw⟩
  rw [hw]
  clear hw
  go_wp2_with fail
  refine Y1.out.mono ?_; rintro e w2 ⟨rfl, hw⟩
  rw [hw]
  clear hw
  go_wp2_with fail
  go_ret
  exact ⟨rfl, HBQ.out⟩
 | false =>
 cases b2 with
 | true =>
  go_wp2_with fail
  refine Y1.out.mono ?_; rintro e w1 ⟨rfl, hw⟩
  rw [hw]
  clear hw
  go_wp2_with fail
  refine Y2.out.mono ?_; rintro e w1 ⟨rfl, hw⟩
  rw [hw]
  clear hw
  go_wp2_with fail
  refine Y1.out.mono ?_; rintro e w2 ⟨rfl, hw⟩
  rw [hw]
  clear hw
  go_wp2_with fail
  refine Y2.out.mono ?_; rintro e w2 ⟨rfl, hw⟩
  rw [hw]
  clear hw
  go_wp2_with fail
  go_ret
  exact ⟨rfl, HBQ.out⟩
 | false =>
 cases b3 with
 | true =>
  go_wp2_with fail
  refine Y1.out.mono ?_; rintro e w1 ⟨rfl, hw⟩
  rw [hw]
  clear hw
  go_wp2_with fail
  refine Y2.out.mono ?_; rintro e w1 ⟨rfl, hw⟩
  rw [hw]
  clear hw
  go_wp2_with fail
  refine Y3.out.mono ?_; rintro e w1 ⟨rfl, hw⟩
  rw [hw]
  clear hw
  go_wp2_with fail
  refine Y1.out.mono ?_; rintro e w2 ⟨rfl, hw⟩
  rw [hw]
  clear hw
  go_wp2_with fail
  refine Y2.out.mono ?_; rintro e w2 ⟨rfl, hw⟩
  rw [hw]
  clear hw
  go_wp2_with fail
  refine Y3.out.mono ?_; rintro e w2 ⟨rfl, hw⟩
  rw [hw]
  clear hw
  go_wp2_with fail
  go_ret
  exact ⟨rfl, HBQ.out⟩
 | false =>
  have T1 := Lib.hid (show (flatB L1).length ≤ 134217728 by have := of_decide_eq_false HB1.out.symm; omega)
  have T2 := Lib.hid (show (flatB L2).length ≤ 134217728 by have := of_decide_eq_false HB2.out.symm; omega)
  go_wp2_with fail
  refine Y1.out.mono ?_; rintro e w1 ⟨rfl, hw⟩
  rw [hw]
  clear hw Y1
  go_wp2_with fail
  refine Y2.out.mono ?_; rintro e w1 ⟨rfl, hw⟩
  rw [hw]
  clear hw Y2
  go_wp2_with fail
  refine Y3.out.mono ?_; rintro e w1 ⟨rfl, hw⟩
  rw [hw]
  clear hw Y3
  go_wp2_with fail
  refine AL.out.mono ?_; rintro e V1 ⟨rfl, B1⟩
  have BW1 := HBQ.out.trans (B1.mono HBQ.out.size)
  have HK1 := Lib.hid (HKQ.out.of_eq (B1.block _ HKQ.out.lt))
  have HW1 := Lib.hid BW1
  have FAR := Lib.hid (fun (V : World) (hb : Below W.heap.size W V) => And.intro ((H1.out.below hb (Nat.le_refl _)).more hb.size) (And.intro ((H2.out.below hb (Nat.le_refl _)).more hb.size) ((H3.out.below hb (Nat.le_refl _)).more hb.size)))
  have D1 := FAR.out V1 BW1
  have J1 := t_Join1 D1.1
  rw [← HN1.out] at J1
  obtain ⟨k1, r1, hj1⟩ : ∃ k1 r1, joinT [frms L1] = (r1, k1) := ⟨_, _, rfl⟩
  obtain ⟨k3, r3, hj3⟩ : ∃ k3 r3, joinT [frms L1, frms L2, frms L3] = (r3, k3) := ⟨_, _, rfl⟩
  obtain ⟨k2, r2, hj2⟩ : ∃ k2 r2, joinT [frms L1, frms L2] = (r2, k2) := ⟨_, _, rfl⟩
  unfold JoinV at J1
  rw [hj1] at J1
  have J1 := Lib.hid J1
  have G1 := Lib.hid hj1
  have G2 := Lib.hid hj2
  have G3 := Lib.hid hj3
  clear AL B1 BW1 D1 hj1 hj2 hj3
  go_wp2_with fail
  refine J1.out.mono ?_; rintro e V2 ⟨Aa, ca, La, rfl, B2, fa, Fa, la⟩
  have HW2 := Lib.hid (HW1.out.trans (B2.mono HW1.out.size))
  have HK2 := Lib.hid (HK1.out.of_eq (B2.block _ HK1.out.lt))
  have D2 := FAR.out V2 HW2.out
  have J2 := t_Join3 D2.1 D2.2.1 D2.2.2
  rw [← HN1.out, ← HN2.out, ← HN3.out] at J2
  unfold JoinV at J2
  rw [G3.out] at J2
  have J2 := Lib.hid J2
  have Ha := Lib.hid (And.intro fa Fa)
  obtain ⟨na, hna⟩ : ∃ na, na = La.length := ⟨_, rfl⟩
  have HNA := Lib.hid hna
  rw [← hna] at la ⊢
  clear J1 B2 fa Fa D2 hna
  go_wp2_with fail
  refine J2.out.mono ?_; rintro e V3 ⟨Ab, cb, Lb, rfl, B3, fb, Fb, lb⟩
  have HW3 := Lib.hid (HW2.out.trans (B3.mono HW2.out.size))
  have HK3 := Lib.hid (HK2.out.of_eq (B3.block _ HK2.out.lt))
  have D3 := FAR.out V3 HW3.out
  have J3 := t_Join2 D3.1 D3.2.1
  rw [← HN1.out, ← HN2.out] at J3
  unfold JoinV at J3
  rw [G2.out] at J3
  have J3 := Lib.hid J3
  have Hb := Lib.hid (And.intro fb Fb)
  have HS2 := Lib.hid B3
  obtain ⟨nb, hnb⟩ : ∃ nb, nb = Lb.length := ⟨_, rfl⟩
  have HNB := Lib.hid hnb
  rw [← hnb] at lb ⊢
  clear J2 B3 fb Fb D3 hnb
  go_wp2_with fail
  refine J3.out.mono ?_; rintro e V4 ⟨Ac, cc, Lc, rfl, B4, fc, Fc, lc⟩
  have HW4 := Lib.hid (HW3.out.trans (B4.mono HW3.out.size))
  have HK4 := Lib.hid (HK3.out.of_eq (B4.block _ HK3.out.lt))
  have HS3 := Lib.hid B4
  have Hc := Lib.hid (And.intro fc Fc)
  obtain ⟨nc, hnc⟩ : ∃ nc, nc = Lc.length := ⟨_, rfl⟩
  have HNC := Lib.hid hnc
  rw [← hnc] at lc ⊢
  clear J3 B4 fc Fc hnc
  by_cases e1 : k1 = 0
  case neg =>
   have e1b : (k1 == 0) = false := by simpa using e1
   have e3 : ¬ k3 = 0 := fun z => e1 (by
    have := join_head (ts := [frms L2, frms L3]) (by rw [G3.out, z])
    rw [G1.out] at this
    simp only [Prod.mk.injEq] at this
    exact this.2)
   have e3b : (k3 == 0) = false := by simpa using e3
   have e2 : ¬ k2 = 0 := fun z => e1 (by
    have := join_head (ts := [frms L2]) (by rw [G2.out, z])
    rw [G1.out] at this
    simp only [Prod.mk.injEq] at this
    exact this.2)
   have e2b : (k2 == 0) = false := by simpa using e2
   have nb0 : nb = 0 := by
    have h0 := joinT_no (ts := [frms L1, frms L2, frms L3]) (by rw [G3.out]; exact e3)
    rw [G3.out] at h0
    dsimp only at h0
    rw [HNB.out, ← frms_len, Hb.out.1, h0]
    rfl
   subst nb0
   go_wp2_with fail
   go_ret
   exact ⟨by rfl, HW4.out⟩
  subst e1
  obtain ⟨o1, o2⟩ := join_one G1.out
  have D4 := FAR.out V4 HW4.out
  have SM := law_same30 Aa A1 ca c1 La L1 V2.heap.size V4.heap.size V4 ((Ha.out.2.below HS2.out (Nat.le_refl _)).below (HS3.out.mono HS2.out.size) (Nat.le_refl _)) D4.1 (Nat.le_trans HS2.out.size HS3.out.size) (Nat.le_refl _)
  rw [← HNA.out, ← HN1.out] at SM
  have SM : Hid (Calls Tryz.prog 24 #[.slice Aa na ca, .slice A1 n1 c1] V4 fun e w' => e = .returned (.bool true) ∧ Below V4.heap.size V4 w') := Lib.hid (SM.mono (fun e w' ⟨b, e1, e2, e3⟩ => ⟨by rw [e1, e2.2 (Ha.out.1.trans o1)], e3⟩))
  clear D4 o1 o2
  go_wp2_with fail
  refine SM.out.mono ?_; rintro e V5 ⟨rfl, B5⟩
  have HW5 := Lib.hid (HW4.out.trans (B5.mono HW4.out.size))
  have HK5 := Lib.hid (HK4.out.of_eq (B5.block _ HK4.out.lt))
  have Fb5 := Lib.hid (((Hb.out.2.below HS3.out (Nat.le_refl _)).below (B5.mono HS3.out.size) (Nat.le_refl _)).more (Nat.le_trans HS3.out.size B5.size))
  have Fc5 := Lib.hid ((Hc.out.2.below B5 (Nat.le_refl _)).more B5.size)
  clear SM B5
  by_cases e3 : k3 = 0
  case neg =>
   have e3b : (k3 == 0) = false := by simpa using e3
   have nb0 : nb = 0 := by
    have h0 := joinT_no (ts := [frms L1, frms L2, frms L3]) (by rw [G3.out]; exact e3)
    rw [G3.out] at h0
    dsimp only at h0
    rw [HNB.out, ← frms_len, Hb.out.1, h0]
    rfl
   subst nb0
   go_wp2_with fail
   go_ret
   exact ⟨by rfl, HW5.out⟩
  subst e3
  obtain ⟨two, t1, t2⟩ := join_three G3.out
  have gg := t1
  rw [G2.out] at gg
  simp only [Prod.mk.injEq] at gg
  obtain ⟨rfl, rfl⟩ := gg
  have D5 := FAR.out V5 HW5.out
  have J4 := t_Join2 Fc5.out D5.2.2
  rw [← HN3.out, ← HNC.out] at J4
  unfold JoinV at J4
  rw [Hc.out.1, t2] at J4
  have J4 := Lib.hid J4
  have JT := Lib.hid t1
  clear D5 t2 t1
  go_wp2_with fail
  refine J4.out.mono ?_; rintro e V6 ⟨Ad, cd, Ld, rfl, B6, fd, Fd, ld⟩
  have HW6 := Lib.hid (HW5.out.trans (B6.mono HW5.out.size))
  have HK6 := Lib.hid (HK5.out.of_eq (B6.block _ HK5.out.lt))
  have Fc6 := Lib.hid ((Fc5.out.below B6 (Nat.le_refl _)).more B6.size)
  have SM := law_same30 Ad Ab cd cb Ld Lb V6.heap.size V5.heap.size V6 Fd (Fb5.out.below B6 (Nat.le_refl _)) (Nat.le_refl _) B6.size
  obtain ⟨nd, hnd⟩ : ∃ nd, nd = Ld.length := ⟨_, rfl⟩
  rw [← hnd] at SM ld ⊢
  rw [← HNB.out] at SM
  have SM : Hid (Calls Tryz.prog 24 #[.slice Ad nd cd, .slice Ab nb cb] V6 fun e w' => e = .returned (.bool true) ∧ Below V6.heap.size V6 w') := Lib.hid (SM.mono (fun e w' ⟨b, e1, e2, e3⟩ => ⟨by rw [e1, e2.2 (fd.trans Hb.out.1.symm)], e3⟩))
  clear J4 B6 fd Fd hnd
  go_wp2_with fail
  refine SM.out.mono ?_; rintro e V7 ⟨rfl, B7⟩
  have HW7 := Lib.hid (HW6.out.trans (B7.mono HW6.out.size))
  have K7 := HK6.out.of_eq (B7.block _ HK6.out.lt)
  have Fc7 := Lib.hid ((Fc6.out.below B7 (Nat.le_refl _)).more B7.size)
  have E7 : EnvV V7 := HE.out.mv (Mv.below (F := []) HW7.out) (by simp)
  have NP := Lib.hid (t_PNew w h A1 c1 L1 2 W.heap.size V7 E7 (H1.out.below HW7.out (Nat.le_refl _)) HW7.out.size (by have := T1.out; omega) (by decide))
  rw [← HN1.out] at NP
  have s0 := K7.c 0 _ rfl
  have s1 := K7.c 1 _ rfl
  have HK7 := Lib.hid K7
  clear SM B7 K7 E7
  go_wp2_with fail
  refine NP.out.mono ?_; rintro e V8 ⟨vp, rfl, B8, P0, P1⟩
  have HW8 := Lib.hid (HW7.out.trans (B8.mono HW7.out.size))
  have K8 := HK7.out.of_eq (B8.block _ HK7.out.lt)
  have E8 : EnvV V8 := HE.out.mv (Mv.below (F := []) HW8.out) (by simp)
  obtain ⟨z1, z2, z3, z4, z5, z6⟩ := join_two JT.out
  have tot2 : (flatB Lc).length ≤ 268435456 := by
   rw [← frms_flat, Hc.out.1, z1, List.flatMap_append, flat_shift, List.length_append, frms_flat, frms_flat]
   have := T1.out
   have := T2.out
   omega
  have NQ := Lib.hid (t_PNew w h Ac cc Lc 3 V7.heap.size V8 E8 (Fc7.out.below B8 (Nat.le_refl _)) B8.size tot2 (by decide))
  unfold NewR at NQ
  rw [← HNC.out, Hc.out.1, newC_both z5 z6] at NQ
  obtain ⟨k, hk⟩ : ∃ k, k = newC w h (frms L1) 2 := ⟨_, rfl⟩
  rw [← hk] at NQ P0 P1 ⊢
  have Q0 := K8.c 0 _ rfl
  have Q1 := K8.c 1 _ rfl
  have HK := Lib.hid hk
  have HP1 := Lib.hid P1
  have HZ := Lib.hid (And.intro z5 z6)
  have HTT := Lib.hid tot2
  have RNG1 : Hid (∀ f ∈ frms L1, Byt f.bs) := Lib.hid (fun f mf => by
   obtain ⟨x, mx, rfl⟩ := List.mem_map.1 mf
   exact (H1.out.ok x mx).b.rng)
  have RNG2 : Hid (∀ f ∈ r2, Byt f.bs) := Lib.hid (fun f mf => by
   rw [← Hc.out.1] at mf
   obtain ⟨x, mx, rfl⟩ := List.mem_map.1 mf
   exact (Hc.out.2.ok x mx).b.rng)
  have TOT2 : Hid ((r2.flatMap (·.bs)).length ≤ 268435456) := Lib.hid (by rw [← Hc.out.1, frms_flat]; exact tot2)
  clear NP P0 P1 B8 K8 E8 z1 z2 z3 z4 z5 z6 tot2 hk s0 s1
  go_wp2_with fail
  refine NQ.out.mono ?_; rintro e V9 ⟨vq, rfl, B9, P0, P1⟩
  have HW9 := Lib.hid (HW8.out.trans (B9.mono HW8.out.size))
  by_cases k0 : k = 0
  case neg =>
   have kb : (k == 0) = false := by simpa using k0
   clear NQ B9 P0 P1 Q0 Q1
   go_wp2_with fail
   go_ret
   exact ⟨by rfl, HW9.out⟩
  subst k0
  obtain ⟨szs, ck, _⟩ := newC_ok HK.out.symm
  obtain ⟨Wp, pb, evp, rfl, PP, _⟩ := HP1.out rfl
  obtain ⟨Wq, qb, evq, rfl, PQ, _⟩ := P1 rfl
  have PP9 := PP.below B9
  have PL := Lib.hid (t_PLen PP9)
  have HPP := Lib.hid PP9
  have HPQ := Lib.hid PQ
  have CP1 := check_parts ck
  have HC1 := Lib.hid CP1
  have TLA : Hid (n1 ≠ 0 → 0 ≤ lastAt (frms L1) ∧ lastAt (frms L1) ≤ 1099511627776) := Lib.hid (fun z => timed_last (frms L1) 0 HC1.out.2.2 (fun q => z (by rw [HN1.out]; exact (frms_nil_iff L1).1 q)))
  have SH : Hid (∀ t, t < lastAt (frms L1) → r2.take (uptoL r2 t) = (frms L1).take (uptoL (frms L1) t)) := Lib.hid (fun t ht => (join_shows JT.out t ht).2)
  have HSZ := Lib.hid szs
  clear NQ HP1 P0 P1 PP PP9 PQ B9 Q0 Q1 CP1 ck szs
  go_wp2_with fail
  refine PL.out.mono ?_; rintro e V10 ⟨rfl, B10⟩
  have HW10 := Lib.hid (HW9.out.trans (B10.mono HW9.out.size))
  have HPP1 := Lib.hid (HPP.out.below B10)
  have HPQ1 := Lib.hid (HPQ.out.below B10)
  clear PL B10 HPP HPQ
  generalize lastAt (frms L1) = la at *
  by_cases z1 : n1 = 0
  ·subst z1
   go_wp2_with fail
   go_ret
   exact ⟨by rfl, HW10.out⟩
  have z1' : ¬ (n1 : Int) = 0 := by omega
  by_cases z2 : la = 0
  ·subst z2
   go_wp2_with fail
   go_ret
   exact ⟨by rfl, HW10.out⟩
  have z2b : (la == 0) = false := by simpa using z2
  have z1b : decide ((n1 : Int) = 0) = false := by simpa using z1
  have lr := TLA.out z1
  have wl : IntKind.i64.wrap (la - 1) = la - 1 := IntWalk.i64_in _ (by omega)
  have lb1 := long_each HC1.out.1
  have PA := t_PAt HPP1.out HSZ.out HC1.out.2.2 RNG1.out lb1 (by rw [frms_flat]; have := T1.out; omega) HC1.out.2.1 (la - 1) (by omega) (by omega)
  have CP2 := check_parts HZ.out.2
  have PB := fun (V : World) (hb : Below V10.heap.size V10 V) => t_PAt (HPQ1.out.below hb) HSZ.out CP2.2.2 RNG2.out (long_each CP2.1) TOT2.out CP2.2.1 (la - 1) (by omega) (by omega)
  rw [SH.out (la - 1) (by omega)] at PB
  have LV := Lib.hid (play_live HSZ.out RNG1.out (uptoL (frms L1) (la - 1))).1
  have PA := Lib.hid PA
  have PB := Lib.hid PB
  generalize playT w h ((frms L1).take (uptoL (frms L1) (la - 1))) = tp at *
  clear lb1 CP2 lr
  go_wp2_with fail
  refine PA.out.mono ?_; rintro e V11 ⟨Ax, cx, rfl, Nx, Bx⟩
  have svx : scrV (seenT tp) Ax cx = .agg #[.int .i64 (seenT tp).w, .int .i64 (seenT tp).h, .slice Ax tp.cells.length cx, .int .i64 (seenT tp).x, .int .i64 (seenT tp).y, .bool (seenT tp).shown] := by unfold scrV; rw [seen_cs]
  rw [svx]
  obtain ⟨V12, h12⟩ : ∃ V, V = V11.alloc (.cells #[.int .i64 (seenT tp).w, .int .i64 (seenT tp).h, .slice Ax tp.cells.length cx, .int .i64 (seenT tp).x, .int .i64 (seenT tp).y, .bool (seenT tp).shown] 51) := ⟨_, rfl⟩
  have b12 : Below V11.heap.size V11 V12 := by rw [h12]; exact (Below.refl _ _).alloc (Nat.le_refl _) _
  have k12 : Bk V12 V11.heap.size [.int .i64 (seenT tp).w, .int .i64 (seenT tp).h, .slice Ax tp.cells.length cx, .int .i64 (seenT tp).x, .int .i64 (seenT tp).y, .bool (seenT tp).shown] 51 := by rw [h12]; exact Bk.new _ _ _
  have bb := Bx.trans (b12.mono Bx.size)
  have PB := Lib.hid (PB.out V12 bb)
  have HW12 := Lib.hid (HW10.out.trans (bb.mono HW10.out.size))
  have HNX : Hid (RowAt V12 79 5 (.slice Ax tp.cells.length cx) tp.cells.length (celsV tp.cells)) := Lib.hid (Nx.1.keep (fun g mg => b12.block g (Nx.1.lt g mg)))
  have HK12 := Lib.hid k12
  have H12 := Lib.hid h12
  clear PA Nx Bx svx b12 k12 bb h12
  go_upto_region 21 with fail
  rw [← H12.out]
  clear H12
  go_wp2_with fail
  refine PB.out.mono ?_; rintro e V13 ⟨Ay, cy, rfl, Ny, By⟩
  have svy : scrV (seenT tp) Ay cy = .agg #[.int .i64 (seenT tp).w, .int .i64 (seenT tp).h, .slice Ay tp.cells.length cy, .int .i64 (seenT tp).x, .int .i64 (seenT tp).y, .bool (seenT tp).shown] := by unfold scrV; rw [seen_cs]
  rw [svy]
  obtain ⟨V14, h14⟩ : ∃ V, V = V13.alloc (.cells #[.int .i64 (seenT tp).w, .int .i64 (seenT tp).h, .slice Ay tp.cells.length cy, .int .i64 (seenT tp).x, .int .i64 (seenT tp).y, .bool (seenT tp).shown] 51) := ⟨_, rfl⟩
  have b14 : Below V13.heap.size V13 V14 := by rw [h14]; exact (Below.refl _ _).alloc (Nat.le_refl _) _
  have k14 : Bk V14 V13.heap.size [.int .i64 (seenT tp).w, .int .i64 (seenT tp).h, .slice Ay tp.cells.length cy, .int .i64 (seenT tp).x, .int .i64 (seenT tp).y, .bool (seenT tp).shown] 51 := by rw [h14]; exact Bk.new _ _ _
  have bb := By.trans (b14.mono By.size)
  have k13 := HK12.out.of_eq (bb.block _ HK12.out.lt)
  have HW14 := Lib.hid (HW12.out.trans (bb.mono HW12.out.size))
  have NX := HNX.out.keep (fun g mg => bb.block g (HNX.out.lt g mg))
  have NY : RowAt V14 79 5 (.slice Ay tp.cells.length cy) tp.cells.length (celsV tp.cells) := Ny.1.keep (fun g mg => b14.block g (Ny.1.lt g mg))
  have cl8 : tp.cells.length ≤ 1048576 := by have := LV.out.fine.cl; have := LV.out.fine.ar; omega
  have AK := law_alike30 (seenT tp) Ax Ay cx cy V14 (by rw [seen_cs]; exact cl8) (by rw [seen_cs]; exact NX) (by rw [seen_cs]; exact NY)
  rw [show scrV (seenT tp) Ax cx = .agg #[.int .i64 (seenT tp).w, .int .i64 (seenT tp).h, .slice Ax tp.cells.length cx, .int .i64 (seenT tp).x, .int .i64 (seenT tp).y, .bool (seenT tp).shown] by unfold scrV; rw [seen_cs], svy] at AK
  have AK := Lib.hid AK
  have x0 := k13.c 0 _ rfl
  have x1 := k13.c 1 _ rfl
  have x2 := k13.c 2 _ rfl
  have x3 := k13.c 3 _ rfl
  have x4 := k13.c 4 _ rfl
  have x5 := k13.c 5 _ rfl
  have y0 := k14.c 0 _ rfl
  have y1 := k14.c 1 _ rfl
  have y2 := k14.c 2 _ rfl
  have y3 := k14.c 3 _ rfl
  have y4 := k14.c 4 _ rfl
  have y5 := k14.c 5 _ rfl
  have H14 := Lib.hid h14
  generalize (seenT tp).w = sw at *
  generalize (seenT tp).h = sh at *
  generalize (seenT tp).x = sx at *
  generalize (seenT tp).y = sy at *
  generalize (seenT tp).shown = ss at *
  clear PB Ny By svy b14 k14 bb k13 NX NY cl8 h14 HK12
  go_upto_region 22 with fail
  rw [← H14.out]
  clear H14
  go_wp2_with fail
  refine AK.out.mono ?_; rintro e V15 ⟨rfl, B15⟩
  have FB := Lib.hid (HW14.out.trans (B15.mono HW14.out.size))
  go_wp2_with fail
  go_ret
  exact ⟨by rfl, FB.out⟩
end
end Go.Proofs.YtmaofighbpnbiaaGreatDoor
