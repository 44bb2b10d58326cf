/- The law StyleParams: the walk. -/
import Derived.Test.YthcdcbibbfdjmaaDoorStyEh
import Derived.Test.YthcdcbibbfdjmaaDoorStyEa
namespace Go.Proofs.YthcdcbibbfdjmaaDoor
open Go Go.RowKit Go.Sort
set_option linter.unusedVariables false

theorem own_far {w w' : World} {lo n : Nat} {T : TypeId} {v : Value} {xs : List Value} {row : Option Nat} (h : w.ownsRow lo T 1 v n xs) (hg : w.grownBy w' row) (hd : ∀ g, v.ownBlock = some g → row ≠ some g) : w'.ownsRow lo T 1 v n xs :=
  h.kept hg (by
    cases e : v.ownBlock with
    | none => exact Or.inl rfl
    | some g => exact Or.inr fun q => hd g e q.symm)

set_option maxHeartbeats 16000000 in
set_option maxRecDepth 100000 in
theorem styleParams_walk (f t o : Sty) (hff : col32 f.fg) (hfb : col32 f.bg) (htf : col32 t.fg) (htb : col32 t.bg) (hof : col32 o.fg) (hob : col32 o.bg) (w : World) (E : EnvS w) (A : ∀ W, Below w.heap.size w W → Calls Tryd.prog 21 #[] W fun e w' => e = .returned (.bool true) ∧ Below W.heap.size W w') :
    Calls Tryd.prog 3 #[styV f.fg f.bg f.at_, styV t.fg t.bg t.at_, styV o.fg o.bg o.at_] w fun e w' => e = .returned (.bool true) ∧ Below w.heap.size w w' := by
  have A := Lib.hid A
  have E := Lib.hid E
  have R1 := Lib.hid (ref_Params f t hff hfb htf htb)
  have R2 := Lib.hid (ref_Params t o htf htb hof hob)
  have S1 := Lib.hid (st_Params f t)
  have S2 := Lib.hid (st_Params t o)
  have L1 := params_len f t
  have L2 := params_len t o
  clear hff hfb htf htb hof hob
  generalize paramsL f t = P at *
  generalize paramsL t o = Q at *
  go_enter Tryd.func3, Tryd.ntmps3
  go_upto_region 1 with fail
  obtain ⟨W0, hW0⟩ : ∃ W, W = ((w.alloc (.cells #[.int .i32 f.fg, .int .i32 f.bg, .int .u8 (bI f.at_)] 24)).alloc (.cells #[.int .i32 t.fg, .int .i32 t.bg, .int .u8 (bI t.at_)] 24)).alloc (.cells #[.int .i32 o.fg, .int .i32 o.bg, .int .u8 (bI o.at_)] 24) := ⟨_, rfl⟩
  have k0 : C3 W0 w.heap.size (.int .i32 f.fg) (.int .i32 f.bg) (.int .u8 (bI f.at_)) := by subst hW0; constructor <;> simp [go_sem]
  have k1 : C3 W0 (w.heap.size + 1) (.int .i32 t.fg) (.int .i32 t.bg) (.int .u8 (bI t.at_)) := by subst hW0; constructor <;> simp [go_sem]
  have k2 : C3 W0 (w.heap.size + 1 + 1) (.int .i32 o.fg) (.int .i32 o.bg) (.int .u8 (bI o.at_)) := by subst hW0; constructor <;> simp [go_sem]
  have HW : Hid (Below w.heap.size w W0) := Lib.hid (by subst hW0; go_grown)
  rw [← hW0]
  clear hW0
  have KK : Hid (∀ W, Below W0.heap.size W0 W → C3 W w.heap.size (.int .i32 f.fg) (.int .i32 f.bg) (.int .u8 (bI f.at_)) ∧ C3 W (w.heap.size + 1) (.int .i32 t.fg) (.int .i32 t.bg) (.int .u8 (bI t.at_)) ∧ C3 W (w.heap.size + 1 + 1) (.int .i32 o.fg) (.int .i32 o.bg) (.int .u8 (bI o.at_)) ∧ EnvS W) :=
    Lib.hid (fun W hb => ⟨k0.keep hb k0.lt, k1.keep hb k1.lt, k2.keep hb k2.lt, (E.out.of_below HW.out (Nat.le_refl _)).of_below hb (Nat.le_refl _)⟩)
  obtain ⟨a0, a1, a2, _, _, _⟩ := k0
  obtain ⟨b0, b1, b2, _, _, _⟩ := k1
  clear k2
  go_wp2_with fail
  refine (R1.out _).mono ?_; rintro e w1 ⟨v1, rfl, o1, hb1⟩
  have RS1 := Lib.hid ((Rows.start W0).add hb1 o1)
  obtain ⟨A1, n1, rfl⟩ := own_slice' o1
  clear o1 hb1 a0 a1 a2 b0 b1 b2
  obtain ⟨⟨a0, a1, a2, _, _, _⟩, ⟨b0, b1, b2, _, _, _⟩, ⟨c0, c1, c2, _, _, _⟩, _⟩ := KK.out w1 RS1.out.bel
  go_wp2_with fail
  refine (R2.out _).mono ?_; rintro e w2 ⟨v2, rfl, o2, hb2⟩
  have RS2 := Lib.hid (RS1.out.add hb2 o2)
  obtain ⟨A2, n2, rfl⟩ := own_slice' o2
  clear o2 hb2 a0 a1 a2 b0 b1 b2 c0 c1 c2
  obtain ⟨⟨a0, a1, a2, _, _, _⟩, ⟨b0, b1, b2, _, _, _⟩, ⟨c0, c1, c2, _, _, _⟩, ev⟩ := KK.out w2 RS2.out.bel
  have EV := Lib.hid ev
  go_wp2_with fail
  refine (S1.out _ EV.out).mono ?_; rintro e w3 ⟨v3, rfl, o3, hb3⟩
  have RS3 := Lib.hid (RS2.out.add hb3 o3)
  obtain ⟨A3, n3, rfl⟩ := own_slice' o3
  clear o3 hb3 a0 a1 a2 b0 b1 b2 c0 c1 c2 ev EV
  obtain ⟨⟨a0, a1, a2, _, _, _⟩, ⟨b0, b1, b2, _, _, _⟩, ⟨c0, c1, c2, _, _, _⟩, ev⟩ := KK.out w3 RS3.out.bel
  have EV := Lib.hid ev
  go_wp2_with fail
  refine (S1.out _ EV.out).mono ?_; rintro e w4 ⟨v4, rfl, o4, hb4⟩
  have RS4 := Lib.hid (RS3.out.add hb4 o4)
  have Z34 : Hid (w3.heap.size ≤ w4.heap.size) := Lib.hid hb4.size
  obtain ⟨A4, n4, rfl⟩ := own_slice' o4
  clear o4 hb4 a0 a1 a2 b0 b1 b2 c0 c1 c2 ev EV
  obtain ⟨⟨a0, a1, a2, _, _, _⟩, ⟨b0, b1, b2, _, _, _⟩, ⟨c0, c1, c2, _, _, _⟩, ev⟩ := KK.out w4 RS4.out.bel
  have EV := Lib.hid ev
  go_wp2_with fail
  refine (S2.out _ EV.out).mono ?_; rintro e w5 ⟨v5, rfl, o5, hb5⟩
  have RS5 := Lib.hid (RS4.out.add hb5 o5)
  obtain ⟨A5, n5, rfl⟩ := own_slice' o5
  clear o5 hb5 a0 a1 a2 b0 b1 b2 c0 c1 c2 ev EV RS1 RS2 RS3 RS4
  obtain ⟨np, hnp⟩ : ∃ n, n = P.length := ⟨_, rfl⟩
  obtain ⟨nq, hnq⟩ : ∃ n, n = Q.length := ⟨_, rfl⟩
  simp only [List.nil_append, List.cons_append] at RS5
  -- the three comparisons
  have G1 := Lib.hid (fun (A B : Option Addr) (c d : Nat) W h1 h2 => law_same A B c d P (by omega) W h1 h2)
  have G2 := Lib.hid (fun (A B : Option Addr) (c d : Nat) W h1 h2 => law_same A B c d Q (by omega) W h1 h2)
  rw [← hnp] at G1 RS5 L1
  rw [← hnq] at G2 RS5 L2
  rw [← hnp, ← hnq]
  have NP := Lib.hid hnp
  have NQ := Lib.hid hnq
  clear hnp hnq
  have T1 := Lib.hid (Sees.of_own (RS5.out.get ⟨W0.heap.size, w1.heap.size, 3, 1, .slice A1 np n1, np, ints P⟩ (by simp)))
  have T2 := Lib.hid (Sees.of_own (RS5.out.get ⟨w1.heap.size, w2.heap.size, 3, 1, .slice A2 nq n2, nq, ints Q⟩ (by simp)))
  have T3 := Lib.hid (Sees.of_own (RS5.out.get ⟨w2.heap.size, w3.heap.size, 3, 1, .slice A3 np n3, np, ints P⟩ (by simp)))
  have T4 := Lib.hid (Sees.of_own (RS5.out.get ⟨w3.heap.size, w4.heap.size, 3, 1, .slice A4 np n4, np, ints P⟩ (by simp)))
  have T5 := Lib.hid (Sees.of_own (RS5.out.get ⟨w4.heap.size, w5.heap.size, 3, 1, .slice A5 nq n5, nq, ints Q⟩ (by simp)))
  go_wp2_with fail
  refine (G1.out A3 A1 n3 n1 w5 T3.out T1.out).mono ?_; rintro e w6 ⟨rfl, hb6⟩
  have U1 := Lib.hid ((T1.out.below hb6 (Nat.le_refl _)).more hb6.size)
  have U2 := Lib.hid ((T2.out.below hb6 (Nat.le_refl _)).more hb6.size)
  have U4 := Lib.hid ((T4.out.below hb6 (Nat.le_refl _)).more hb6.size)
  have U5 := Lib.hid ((T5.out.below hb6 (Nat.le_refl _)).more hb6.size)
  have RS6 := Lib.hid (RS5.out.call hb6)
  clear hb6 T1 T2 T3 T4 T5
  go_wp2_with fail
  refine (G1.out A4 A1 n4 n1 w6 U4.out U1.out).mono ?_; rintro e w7 ⟨rfl, hb7⟩
  have V2 := Lib.hid ((U2.out.below hb7 (Nat.le_refl _)).more hb7.size)
  have V5 := Lib.hid ((U5.out.below hb7 (Nat.le_refl _)).more hb7.size)
  have RS7 := Lib.hid (RS6.out.call hb7)
  clear hb7 U1 U2 U4 U5 RS6 RS5
  go_wp2_with fail
  refine (G2.out A5 A2 n5 n2 w7 V5.out V2.out).mono ?_; rintro e w8 ⟨rfl, hb8⟩
  have RS8 := Lib.hid (RS7.out.call hb8)
  clear hb8 V2 V5 RS7
  -- spoil
  go_wp2_with fail
  refine (law_spoil _ np w2.heap.size (ints P) (-1) (by omega) w8 (RS8.out.get ⟨w2.heap.size, w3.heap.size, 3, 1, .slice A3 np n3, np, ints P⟩ (by simp))).mono ?_; rintro e w9 ⟨rfl, ho9, hg9⟩
  have RS9 := Lib.hid (RS8.out.write (l1 := [⟨W0.heap.size, w1.heap.size, 3, 1, .slice A1 np n1, np, ints P⟩, ⟨w1.heap.size, w2.heap.size, 3, 1, .slice A2 nq n2, nq, ints Q⟩]) (r := ⟨w2.heap.size, w3.heap.size, 3, 1, .slice A3 np n3, np, ints P⟩) hg9 ho9)
  simp only [List.cons_append, List.nil_append] at RS9
  clear ho9 hg9 RS8
  go_wp2_with fail
  refine (law_spoil _ nq w4.heap.size (ints Q) (-2) (by omega) w9 (RS9.out.get ⟨w4.heap.size, w5.heap.size, 3, 1, .slice A5 nq n5, nq, ints Q⟩ (by simp))).mono ?_; rintro e w10 ⟨rfl, ho10, hg10⟩
  have RS10 := Lib.hid (RS9.out.write (l1 := [⟨W0.heap.size, w1.heap.size, 3, 1, .slice A1 np n1, np, ints P⟩, ⟨w1.heap.size, w2.heap.size, 3, 1, .slice A2 nq n2, nq, ints Q⟩, ⟨w2.heap.size, w3.heap.size, 3, 1, .slice A3 np n3, np, List.replicate np (.int .i64 (-1))⟩, ⟨w3.heap.size, w4.heap.size, 3, 1, .slice A4 np n4, np, ints P⟩]) (r := ⟨w4.heap.size, w5.heap.size, 3, 1, .slice A5 nq n5, nq, ints Q⟩) hg10 ho10)
  simp only [List.cons_append, List.nil_append] at RS10
  clear ho10 hg10 RS9
  -- grown
  have hl3 : w2.heap.size ≤ w10.heap.size := (RS10.out.all ⟨w1.heap.size, w2.heap.size, 3, 1, .slice A2 nq n2, nq, ints Q⟩ (by simp)).2.2
  have own3 := Lib.hid (RS10.out.get ⟨w2.heap.size, w3.heap.size, 3, 1, .slice A3 np n3, np, List.replicate np (.int .i64 (-1))⟩ (by simp))
  have own5 := Lib.hid (RS10.out.get ⟨w4.heap.size, w5.heap.size, 3, 1, .slice A5 nq n5, nq, List.replicate nq (.int .i64 (-2))⟩ (by simp))
  have top3 := Lib.hid ((RS10.out.all ⟨w2.heap.size, w3.heap.size, 3, 1, .slice A3 np n3, np, List.replicate np (.int .i64 (-1))⟩ (by simp)).1.top)
  go_wp2_with fail
  refine (law_grown _ np w2.heap.size _ (-1) (by omega) w10 hl3 own3.out).mono ?_; rintro e w11 ⟨vx, rfl, GX⟩
  have RS11 := Lib.hid (RS10.out.write (l1 := [⟨W0.heap.size, w1.heap.size, 3, 1, .slice A1 np n1, np, ints P⟩, ⟨w1.heap.size, w2.heap.size, 3, 1, .slice A2 nq n2, nq, ints Q⟩]) (r := ⟨w2.heap.size, w3.heap.size, 3, 1, .slice A3 np n3, np, List.replicate np (.int .i64 (-1))⟩) GX.gr GX.old)
  simp only [List.cons_append, List.nil_append] at RS11
  have GX := Lib.hid GX
  have hl5 : w4.heap.size ≤ w11.heap.size := (RS11.out.all ⟨w3.heap.size, w4.heap.size, 3, 1, .slice A4 np n4, np, ints P⟩ (by simp)).2.2
  have own5' := Lib.hid (RS11.out.get ⟨w4.heap.size, w5.heap.size, 3, 1, .slice A5 nq n5, nq, List.replicate nq (.int .i64 (-2))⟩ (by simp))
  clear RS10 hl3
  go_wp2_with fail
  refine (law_grown _ nq w4.heap.size _ (-2) (by omega) w11 hl5 own5'.out).mono ?_; rintro e w12 ⟨vy, rfl, GY⟩
  have RS12 := Lib.hid (RS11.out.write (l1 := [⟨W0.heap.size, w1.heap.size, 3, 1, .slice A1 np n1, np, ints P⟩, ⟨w1.heap.size, w2.heap.size, 3, 1, .slice A2 nq n2, nq, ints Q⟩, ⟨w2.heap.size, w3.heap.size, 3, 1, .slice A3 np n3, np, List.replicate np (.int .i64 (-1))⟩, ⟨w3.heap.size, w4.heap.size, 3, 1, .slice A4 np n4, np, ints P⟩]) (r := ⟨w4.heap.size, w5.heap.size, 3, 1, .slice A5 nq n5, nq, List.replicate nq (.int .i64 (-2))⟩) GY.gr GY.old)
  simp only [List.cons_append, List.nil_append] at RS12
  have OX : Hid (w12.ownsRow w2.heap.size 3 1 vx (np + 70) (List.replicate (np + 70) (.int .i64 (-1)))) := Lib.hid (by
    have q := own_far GX.out.new GY.gr (fun g hg hc => by
      rcases GX.out.at_ with e | ⟨g', e, l⟩
      · rw [e] at hg
        have a := top3.out g hg
        have b := (own5.out.lt g hc).1
        have z := Z34.out
        omega
      · rw [e] at hg
        cases hg
        have b := (own5.out.lt _ hc).2
        omega)
    rw [List.replicate_append_replicate] at q
    exact q)
  have OY : Hid (w12.ownsRow w4.heap.size 3 1 vy (nq + 70) (List.replicate (nq + 70) (.int .i64 (-2)))) := Lib.hid (by
    have q := GY.new
    rw [List.replicate_append_replicate] at q
    exact q)
  obtain ⟨Ax, nx, rfl⟩ := own_slice' OX.out
  obtain ⟨Ay, ny, rfl⟩ := own_slice' OY.out
  clear RS11 GX GY own3 own5 own5' top3 hl5 Z34
  go_wp2_with fail
  refine (law_full A3 n3 np (-1) (by omega) w12 (Sees.of_own (RS12.out.get ⟨w2.heap.size, w3.heap.size, 3, 1, .slice A3 np n3, np, List.replicate np (.int .i64 (-1))⟩ (by simp)))).mono ?_; rintro e w13 ⟨rfl, hb⟩
  have RS13 := Lib.hid (RS12.out.call hb)
  have OX := Lib.hid (own_call OX.out hb)
  have OY := Lib.hid (own_call OY.out hb)
  clear hb RS12
  go_wp2_with fail
  refine (law_full A5 n5 nq (-2) (by omega) w13 (Sees.of_own (RS13.out.get ⟨w4.heap.size, w5.heap.size, 3, 1, .slice A5 nq n5, nq, List.replicate nq (.int .i64 (-2))⟩ (by simp)))).mono ?_; rintro e w14 ⟨rfl, hb⟩
  have RS14 := Lib.hid (RS13.out.call hb)
  have OX := Lib.hid (own_call OX.out hb)
  have OY := Lib.hid (own_call OY.out hb)
  clear hb RS13
  go_wp2_with fail
  refine (law_full Ax nx (np + 70) (-1) (by omega) w14 (Sees.of_own (OX.out))).mono ?_; rintro e w15 ⟨rfl, hb⟩
  have RS15 := Lib.hid (RS14.out.call hb)
  have OY := Lib.hid (own_call OY.out hb)
  clear hb RS14
  go_wp2_with fail
  refine (law_full Ay ny (nq + 70) (-2) (by omega) w15 (Sees.of_own (OY.out))).mono ?_; rintro e w16 ⟨rfl, hb⟩
  have RS16 := Lib.hid (RS15.out.call hb)
  clear hb RS15
  have U1 := Lib.hid (Sees.of_own (RS16.out.get ⟨W0.heap.size, w1.heap.size, 3, 1, .slice A1 np n1, np, ints P⟩ (by simp)))
  have U4 := Lib.hid (Sees.of_own (RS16.out.get ⟨w3.heap.size, w4.heap.size, 3, 1, .slice A4 np n4, np, ints P⟩ (by simp)))
  go_wp2_with fail
  refine (G1.out A4 A1 n4 n1 w16 U4.out U1.out).mono ?_; rintro e w17 ⟨rfl, hb⟩
  have RS17 := Lib.hid (RS16.out.call hb)
  clear hb RS16 U1 U4
  obtain ⟨⟨a0, a1, a2, _, _, _⟩, ⟨b0, b1, b2, _, _, _⟩, _, ev⟩ := KK.out w17 RS17.out.bel
  have EV := Lib.hid ev
  go_wp2_with fail
  refine (S1.out _ EV.out).mono ?_; rintro e w18 ⟨v6, rfl, o6, hb⟩
  have RS18 := Lib.hid (RS17.out.call hb)
  obtain ⟨A6, n6, rfl⟩ := own_slice' o6
  rw [← NP.out] at o6 ⊢
  have U1 := Lib.hid (Sees.of_own (RS18.out.get ⟨W0.heap.size, w1.heap.size, 3, 1, .slice A1 np n1, np, ints P⟩ (by simp)))
  have U6 := Lib.hid (Sees.of_own o6)
  clear hb RS17 o6 a0 a1 a2 b0 b1 b2 ev EV
  go_wp2_with fail
  refine (G1.out A6 A1 n6 n1 w18 U6.out U1.out).mono ?_; rintro e w19 ⟨rfl, hb⟩
  have HB := Lib.hid (HW.out.trans ((RS18.out.call hb).bel.mono HW.out.size))
  clear hb
  go_wp2_with fail
  refine (A.out _ HB.out).mono ?_; rintro e w20 ⟨rfl, hb⟩
  have HB2 := Lib.hid (below_call HB.out HB.out.size hb)
  clear hb
  go_wp2_with fail
  go_ret
  exact ⟨rfl, HB2.out⟩
end Go.Proofs.YthcdcbibbfdjmaaDoor
