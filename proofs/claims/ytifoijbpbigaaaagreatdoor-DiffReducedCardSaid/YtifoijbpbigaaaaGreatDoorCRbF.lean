/- DiffReduced: the walk. -/
import Derived.Test.YtifoijbpbigaaaaGreatDoorCRbE
set_option linter.unusedVariables false
set_option linter.unusedSimpArgs false
namespace Go.Proofs.YtifoijbpbigaaaaGreatDoor
section
open Go Go.RowKit Go.Sort
section
set_option maxHeartbeats 64000000 in
set_option maxRecDepth 100000 in
theorem Xj (t : SA) (d : Int) (w : World) (E : EnvD w) (hs : ScrD w t) (ot : ∀ x ∈ t.s.cells, zy x.st.fg /\ zy x.st.bg) :
  Calls Tryz.prog 3 #[.agg #[.int .i64 t.s.w, .int .i64 t.s.h, .slice t.A t.s.cells.length t.c, .int .i64 t.s.x, .int .i64 t.s.y, .bool t.s.shown], .int .i64 d] w fun e w' => e = .returned (.bool true) /\ Below w.heap.size w w' := by
 obtain ⟨V1, hV1⟩ : ∃ V1, V1 = w.alloc (.cells #[.int .i64 t.s.w, .int .i64 t.s.h, .slice t.A t.s.cells.length t.c, .int .i64 t.s.x, .int .i64 t.s.y, .bool t.s.shown] 24) := ⟨_, rfl⟩
 have B1 : Below w.heap.size w V1 := by rw [hV1]; exact (Below.refl _ w).alloc Xm _
 have Z1 : V1.heap.size = w.heap.size + 1 := by rw [hV1]; simp
 have K1 : Blk V1 w.heap.size [.int .i64 t.s.w, .int .i64 t.s.h, .slice t.A t.s.cells.length t.c, .int .i64 t.s.x, .int .i64 t.s.y, .bool t.s.shown] := by
  rw [hV1]
  exact Blk.new w [.int .i64 t.s.w, .int .i64 t.s.h, .slice t.A t.s.cells.length t.c, .int .i64 t.s.x, .int .i64 t.s.y, .bool t.s.shown] 24
 obtain ⟨Q, hQ⟩ : ∃ Q, Q = V1.alloc (.cells #[.int .i64 t.s.w, .int .i64 t.s.h, .slice t.A t.s.cells.length t.c, .int .i64 t.s.x, .int .i64 t.s.y, .bool t.s.shown, .int .i64 t.s.w, .int .i64 t.s.h, .slice t.A t.s.cells.length t.c, .int .i64 t.s.x, .int .i64 t.s.y, .bool t.s.shown, .int .i64 t.s.w, .int .i64 t.s.h, .slice t.A t.s.cells.length t.c, .int .i64 t.s.x, .int .i64 t.s.y, .bool t.s.shown] 24) := ⟨_, rfl⟩
 have B2 : Below V1.heap.size V1 Q := by rw [hQ]; exact (Below.refl _ _).alloc Xm _
 have BQ : Below w.heap.size w Q := B1.trans (B2.mono B1.size)
 have KT : Blk Q w.heap.size [.int .i64 t.s.w, .int .i64 t.s.h, .slice t.A t.s.cells.length t.c, .int .i64 t.s.x, .int .i64 t.s.y, .bool t.s.shown] := K1.keep B2 (by omega)
 have BY := Qn [t, t, t] (some ⟨w.heap.size + 1, 0, none⟩) 3 Q (by
  have := Qr V1 [t, t, t] 24
  rw [hQ, <- Z1]
  exact this) (by show 3 <= _; omega) (Qs (fun x hx => by
   have : x = t := by
    simp at hx
    exact hx
   subst this
   exact hs.below BQ))
 have TT : zE [t, t, t] <= 134217728 -> bulk t.s.cells <= 134217728 := by
  intro h
  simp [zE] at h
  omega
 have HG := Xk (show decide (134217728 < zE [t, t, t]) = false -> (ScrAt Q Q.heap.size t.s t.A t.c /\ (∀ x ∈ t.s.cells, okR x) /\ t.s.cells.length <= 134217728) from fun h => by
  have h := of_decide_eq_false h
  have b1 := TT (by omega)
  have s1 := ((hs.below BQ).at b1).1
  have n1 := xX t.s.cells
  refine ⟨s1, fun x hx => ?_, by omega⟩
  have := xY hx
  have ok := s1.ok x hx
  exact ⟨by omega, ok.2.1, ok.2.2, (ot x hx).1, (ot x hx).2⟩)
 have KTH := Xk KT
 have E := Xk (E.of_below BQ Xm)
 have HB := Xk BQ
 have QSH : Hid (Q.heap.size = w.heap.size + 2) := Xk (by rw [hQ]; simp [Z1])
 have H1 := Xk hV1
 have HQ := Xk hQ
 have HK1 := Xk K1
 have HZ1 := Xk Z1
 generalize decide (134217728 < zE [t, t, t]) = G at *
 have BY := Xk BY
 clear hs KT BQ B1 B2 TT hV1 hQ K1 Z1 ot
 simp only [List.length_cons, List.length_nil, Nat.zero_add, Nat.reduceAdd] at BY
 go_enter Tryz.func3, Tryz.ntmps3
 go_upto_region 1 with fail
 rw [<- H1.out]
 clear H1
 have k0 := HK1.out.c 0 _ rfl
 have k1 := HK1.out.c 1 _ rfl
 have k2 := HK1.out.c 2 _ rfl
 have k3 := HK1.out.c 3 _ rfl
 have k4 := HK1.out.c 4 _ rfl
 have k5 := HK1.out.c 5 _ rfl
 go_wp2_with fail
 rw [HZ1.out, <- HQ.out]
 clear HQ k0 k1 k2 k3 k4 k5 HK1
 refine BY.out.mono ?_; rintro e w1 ⟨rfl, hw⟩
 rw [<- hw]
 clear hw BY
 cases G with
 | true =>
  go_wp2_with fail
  go_ret
  exact ⟨rfl, HB.out⟩
 | false =>
  obtain ⟨sa, oka, na⟩ := HG.out rfl
  have HSA := Xk sa
  have HOA := Xk oka
  have k0 := KTH.out.c 0 _ rfl
  have k1 := KTH.out.c 1 _ rfl
  have k2 := KTH.out.c 2 _ rfl
  have k3 := KTH.out.c 3 _ rfl
  have k4 := KTH.out.c 4 _ rfl
  have k5 := KTH.out.c 5 _ rfl
  have RC := Xh t.s d t.A t.c sa.cap sa.nil (by omega) oka Q sa.sees
  obtain ⟨U, hU⟩ : ∃ U, U = redU t.s d := ⟨_, rfl⟩
  obtain ⟨CD, hCD⟩ : ∃ CD, CD = redE t.s := ⟨_, rfl⟩
  rw [<- hU, <- hCD] at RC
  have HU := Xk hU
  have HCD := Xk hCD
  have UL : U.cells.length <= 134217728 := by have := redU_len t.s d; rw [<- hU] at this; omega
  have HUL := Xk UL
  simp only [scrV] at RC
  have RC := Xk RC
  clear sa oka HG hU hCD UL
  go_wp2_with fail
  refine RC.out.mono ?_; rintro e W1 ⟨A0, c0, rfl, o0, b1⟩
  obtain ⟨P0, hP0⟩ : ∃ P0, P0 = W1.alloc (.cells #[.int .i64 U.w, .int .i64 U.h, .slice A0 U.cells.length c0, .int .i64 U.x, .int .i64 U.y, .bool U.shown] 24) := ⟨_, rfl⟩
  have p0 : Below W1.heap.size W1 P0 := by rw [hP0]; exact (Below.refl _ W1).alloc Xm _
  have KP0 : Blk P0 W1.heap.size [.int .i64 U.w, .int .i64 U.h, .slice A0 U.cells.length c0, .int .i64 U.x, .int .i64 U.y, .bool U.shown] := by rw [hP0]; exact Blk.new W1 _ _
  have s0 : W1.heap.size < P0.heap.size := by rw [hP0]; simp
  have gt : w.heap.size < Q.heap.size := by rw [QSH.out]; omega
  have HGT := Xk gt
  have B01 := b1.trans (p0.mono b1.size)
  have HB0 := Xk B01
  have HO0 := Xk (zD o0 p0)
  have HP0 := Xk hP0
  have HKU := Xk KP0
  have HS0 := Xk s0
  have LT := Xk (kQ t.s t.A t.c HSA.out.cap HSA.out.nil (by omega) P0 ((HSA.out.sees.below B01 Xm).more B01.size))
  have kt := KTH.out.keep B01 gt
  have m0 := kt.c 0 _ rfl
  have m1 := kt.c 1 _ rfl
  have m2 := kt.c 2 _ rfl
  have m3 := kt.c 3 _ rfl
  have m4 := kt.c 4 _ rfl
  have m5 := kt.c 5 _ rfl
  clear k0 k1 k2 k3 k4 k5 RC o0 b1 p0 KP0 s0 gt B01 kt hP0
  unfold xp at LT
  simp only [scrV] at LT
  go_upto_region 4 with fail
  rw [<- HP0.out]
  clear HP0
  go_wp2_with fail
  refine LT.out.mono ?_; rintro e W2 ⟨ga, ca, rfl, fa, b2⟩
  have la : t.s.cells.length + 2 <= ca := by
   rcases fa.2 with ⟨z, _⟩ | ⟨g, cap, cur, z, _, _, hn, _⟩
   ·cases z
   ·injection z with z1 z2 z3; omega
  obtain ⟨P1, hP1⟩ : ∃ P1, P1 = W2.alloc (.cells #[.int .i64 t.s.w, .int .i64 t.s.h, .slice (some ⟨ga, 0, none⟩) t.s.cells.length ca, .int .i64 t.s.x, .int .i64 t.s.y, .bool t.s.shown] 24) := ⟨_, rfl⟩
  have p1 : Below W2.heap.size W2 P1 := by rw [hP1]; exact (Below.refl _ W2).alloc Xm _
  have KP1 : Blk P1 W2.heap.size [.int .i64 t.s.w, .int .i64 t.s.h, .slice (some ⟨ga, 0, none⟩) t.s.cells.length ca, .int .i64 t.s.x, .int .i64 t.s.y, .bool t.s.shown] := by rw [hP1]; exact Blk.new W2 _ _
  have s1 : W2.heap.size < P1.heap.size := by rw [hP1]; simp
  have B12 := b2.trans (p1.mono b2.size)
  have HFA := Xk (zD fa p1)
  have HLA := Xk la
  have HB1 := Xk (HB0.out.trans (B12.mono HB0.out.size))
  have HKU1 := Xk (HKU.out.keep B12 HS0.out)
  have HSU := Xk (Nat.lt_of_lt_of_le HS0.out B12.size)
  have HO01 := Xk (zD HO0.out B12)
  have HKT1 := Xk (KTH.out.keep HB1.out HGT.out)
  have HST := Xk (Nat.lt_of_lt_of_le HGT.out HB1.out.size)
  have HP1 := Xk hP1
  have HKL := Xk KP1
  have HS1 := Xk s1
  have HSA1 := Xk ((HSA.out.sees.below HB1.out Xm).more HB1.out.size)
  have DC := Xk (fun (V : World) (hV : Below P1.heap.size P1 V) => Xg t.s d (some ⟨ga, 0, none⟩) ca (by have := HLA.out; omega) (fun z => by cases z) (by omega) (fun x hx => ⟨by have := (HOA.out x hx).sz; omega, (HOA.out x hx).w0, (HOA.out x hx).w1⟩) V (vf (j4 (zD HFA.out hV))))
  rw [<- HU.out, <- HCD.out] at DC
  simp only [scrV] at DC
  have D1 := Xk (DC.out P1 (Below.refl _ _))
  have D1 := Xk D1.out
  have x0 := KP1.c 0 _ rfl
  have x1 := KP1.c 1 _ rfl
  have x2 := KP1.c 2 _ rfl
  have x3 := KP1.c 3 _ rfl
  have x4 := KP1.c 4 _ rfl
  have x5 := KP1.c 5 _ rfl
  clear m0 m1 m2 m3 m4 m5 LT fa b2 la hP1 p1 KP1 s1 B12 HKU HO0 HS0 HSA KTH HGT
  go_upto_region 5 with fail
  rw [<- HP1.out]
  clear HP1
  go_wp2_with fail
  refine D1.out.mono ?_; rintro e W3 ⟨A1, c1, rfl, o1, b3⟩
  obtain ⟨P2, hP2⟩ : ∃ P2, P2 = W3.alloc (.cells #[.int .i64 U.w, .int .i64 U.h, .slice A1 U.cells.length c1, .int .i64 U.x, .int .i64 U.y, .bool U.shown] 24) := ⟨_, rfl⟩
  have p2 : Below W3.heap.size W3 P2 := by rw [hP2]; exact (Below.refl _ W3).alloc Xm _
  have KP2 : Blk P2 W3.heap.size [.int .i64 U.w, .int .i64 U.h, .slice A1 U.cells.length c1, .int .i64 U.x, .int .i64 U.y, .bool U.shown] := by rw [hP2]; exact Blk.new W3 _ _
  have s2 : W3.heap.size < P2.heap.size := by rw [hP2]; simp
  have B23 := b3.trans (p2.mono b3.size)
  have HB2 := Xk B23
  have HO1 := Xk (zD o1 p2)
  have HKA := Xk KP2
  have HS2 := Xk s2
  have HP2 := Xk hP2
  have D2 := Xk (DC.out P2 B23)
  have kl := HKL.out.keep B23 HS1.out
  have y0 := kl.c 0 _ rfl
  have y1 := kl.c 1 _ rfl
  have y2 := kl.c 2 _ rfl
  have y3 := kl.c 3 _ rfl
  have y4 := kl.c 4 _ rfl
  have y5 := kl.c 5 _ rfl
  clear x0 x1 x2 x3 x4 x5 D1 o1 b3 hP2 p2 KP2 s2 B23 kl
  go_upto_region 6 with fail
  rw [<- HP2.out]
  clear HP2
  go_wp2_with fail
  refine D2.out.mono ?_; rintro e W4 ⟨A2, c2, rfl, o2, b4⟩
  obtain ⟨P3, hP3⟩ : ∃ P3, P3 = W4.alloc (.cells #[.int .i64 U.w, .int .i64 U.h, .slice A2 U.cells.length c2, .int .i64 U.x, .int .i64 U.y, .bool U.shown] 24) := ⟨_, rfl⟩
  have p3 : Below W4.heap.size W4 P3 := by rw [hP3]; exact (Below.refl _ W4).alloc Xm _
  have KP3 : Blk P3 W4.heap.size [.int .i64 U.w, .int .i64 U.h, .slice A2 U.cells.length c2, .int .i64 U.x, .int .i64 U.y, .bool U.shown] := by rw [hP3]; exact Blk.new W4 _ _
  have s3 : W4.heap.size < P3.heap.size := by rw [hP3]; simp
  have B34 := b4.trans (p3.mono b4.size)
  have HAP := Xk (Xi HO1.out o2 Xm)
  have HO1 := Xk (zD HO1.out B34)
  have HO2 := Xk (zD o2 p3)
  have HKA3 := Xk (HKA.out.keep B34 HS2.out)
  have HSA3 := Xk (Nat.lt_of_lt_of_le HS2.out B34.size)
  have HKB := Xk KP3
  have HS3 := Xk s3
  have HP3 := Xk hP3
  have HL2 := Xk HB2.out.size
  have HB3 := Xk (HB2.out.trans (B34.mono HB2.out.size))
  clear y0 y1 y2 y3 y4 y5 D2 o2 b4 hP3 p3 KP3 s3 B34 HKA HS2
  have I1 := Xk (fun (V : World) (hV : Below P3.heap.size P3 V) => kN U A1 A0 c1 c0 (by have := HUL.out; omega) V (SeesT.of_own (zD HO1.out hV)).sees (SeesT.of_own (zD HO01.out (HB3.out.trans (hV.mono HB3.out.size)))).sees)
  have I2 := Xk (fun (V : World) (hV : Below P3.heap.size P3 V) => kN U A2 A0 c2 c0 (by have := HUL.out; omega) V (SeesT.of_own (zD HO2.out hV)).sees (SeesT.of_own (zD HO01.out (HB3.out.trans (hV.mono HB3.out.size)))).sees)
  have IA := Xk (fun (V : World) (hV : Below P1.heap.size P1 V) => kR t.s ga ca t.c t.A (by omega) HLA.out V (j4 (zD HFA.out hV)) ((HSA1.out.below hV Xm).more hV.size))
  simp only [scrV] at I1 I2 IA
  have J1 := Xk (I1.out P3 (Below.refl _ _))
  have dn : decide (CD = CD) = true := by simp
  have ku := HKU1.out.keep HB3.out HSU.out
  have x0 := HKA3.out.c 0 _ rfl
  have x1 := HKA3.out.c 1 _ rfl
  have x2 := HKA3.out.c 2 _ rfl
  have x3 := HKA3.out.c 3 _ rfl
  have x4 := HKA3.out.c 4 _ rfl
  have x5 := HKA3.out.c 5 _ rfl
  have y0 := ku.c 0 _ rfl
  have y1 := ku.c 1 _ rfl
  have y2 := ku.c 2 _ rfl
  have y3 := ku.c 3 _ rfl
  have y4 := ku.c 4 _ rfl
  have y5 := ku.c 5 _ rfl
  clear ku
  go_upto_region 7 with fail
  rw [<- HP3.out]
  clear HP3
  go_wp2_with fail
  refine J1.out.mono ?_; rintro e W5 ⟨rfl, b5⟩
  have H5 := Xk b5
  have J2 := Xk (I2.out W5 b5)
  have kb := HKB.out.keep b5 HS3.out
  have B15 := HB3.out.trans (b5.mono HB3.out.size)
  have ku := HKU1.out.keep B15 HSU.out
  clear x0 x1 x2 x3 x4 x5 y0 y1 y2 y3 y4 y5
  have x0 := kb.c 0 _ rfl
  have x1 := kb.c 1 _ rfl
  have x2 := kb.c 2 _ rfl
  have x3 := kb.c 3 _ rfl
  have x4 := kb.c 4 _ rfl
  have x5 := kb.c 5 _ rfl
  have y0 := ku.c 0 _ rfl
  have y1 := ku.c 1 _ rfl
  have y2 := ku.c 2 _ rfl
  have y3 := ku.c 3 _ rfl
  have y4 := ku.c 4 _ rfl
  have y5 := ku.c 5 _ rfl
  clear J1 b5 kb ku B15
  go_wp2_with fail
  refine J2.out.mono ?_; rintro e W6 ⟨rfl, b6⟩
  have H6 := Xk (H5.out.trans (b6.mono H5.out.size))
  have B16 := HB3.out.trans (H6.out.mono HB3.out.size)
  have J3 := Xk (IA.out W6 B16)
  have kt := HKT1.out.keep B16 HST.out
  clear x0 x1 x2 x3 x4 x5 y0 y1 y2 y3 y4 y5
  have x0 := kt.c 0 _ rfl
  have x1 := kt.c 1 _ rfl
  have x2 := kt.c 2 _ rfl
  have x3 := kt.c 3 _ rfl
  have x4 := kt.c 4 _ rfl
  have x5 := kt.c 5 _ rfl
  clear J2 b6 kt B16 H5
  go_wp2_with fail
  refine J3.out.mono ?_; rintro e W7 ⟨rfl, b7⟩
  have H7 := Xk (H6.out.trans (b7.mono H6.out.size))
  obtain ⟨n, hn⟩ : ∃ n, n = U.cells.length := ⟨_, rfl⟩
  have HN := Xk hn
  obtain ⟨P4, hP4⟩ : ∃ P4, P4 = W7.alloc (.cells #[.slice A1 n c1, .slice A2 n c2] 22) := ⟨_, rfl⟩
  have p4 : Below W7.heap.size W7 P4 := by rw [hP4]; exact (Below.refl _ W7).alloc Xm _
  have H4 := Xk (H7.out.trans (p4.mono H7.out.size))
  have B14 := HB3.out.trans (H4.out.mono HB3.out.size)
  have SPL := Xd [⟨A1, n, c1⟩, ⟨A2, n, c2⟩] W7.heap.size 2 P1.heap.size (by show 2 <= 1000; omega) (fun r hr => by
   have := HUL.out
   simp at hr
   rcases hr with rfl | rfl
   ·show n <= _; omega
   ·show n <= _; omega) P4 B14.size (fun j h => by
   have h1 := zD HO1.out H4.out
   have h2 := qR (zD HO2.out H4.out) HL2.out
   rw [<- hn] at h1 h2
   have l2 : j = 0 \/ j = 1 := by
    have : j < 2 := h
    omega
   rcases l2 with rfl | rfl
   ·exact ⟨_, h1⟩
   ·exact ⟨_, h2⟩) (by rw [hn]; exact HAP.out) (fun _ => ⟨W7.heap.size, #[.slice A1 n c1, .slice A2 n c2], rfl, by rw [hP4]; exact World.alloc_heap_new W7 _, rfl⟩) (by rw [hP4]; simp)
  have SPL := Xk SPL
  have HP4 := Xk hP4
  have k1 := HKA3.out.keep H7.out HSA3.out
  have k2 := HKB.out.keep H7.out HS3.out
  have z1 := k1.c 2 _ rfl
  have z2 := k2.c 2 _ rfl
  rw [<- hn] at z1 z2
  have H14 := Xk B14
  clear x0 x1 x2 x3 x4 x5 J3 b7 k1 k2 hP4 p4 B14 hn
  go_wp2_with fail
  rw [<- HP4.out]
  clear HP4
  refine SPL.out.mono ?_; rintro e W8 ⟨rfl, b8⟩
  have B18 := H14.out.trans b8
  have H18 := Xk B18
  have J4 := Xk (IA.out W8 B18)
  have kt := HKT1.out.keep B18 HST.out
  have x0 := kt.c 0 _ rfl
  have x1 := kt.c 1 _ rfl
  have x2 := kt.c 2 _ rfl
  have x3 := kt.c 3 _ rfl
  have x4 := kt.c 4 _ rfl
  have x5 := kt.c 5 _ rfl
  clear SPL b8 B18 kt z1 z2
  go_wp2_with fail
  refine J4.out.mono ?_; rintro e W9 ⟨rfl, b9⟩
  have B19 := H18.out.trans (b9.mono H18.out.size)
  have H19 := Xk B19
  have D3 := Xk (DC.out W9 B19)
  have kl := HKL.out.keep B19 HS1.out
  clear x0 x1 x2 x3 x4 x5
  have x0 := kl.c 0 _ rfl
  have x1 := kl.c 1 _ rfl
  have x2 := kl.c 2 _ rfl
  have x3 := kl.c 3 _ rfl
  have x4 := kl.c 4 _ rfl
  have x5 := kl.c 5 _ rfl
  clear J4 b9 B19 kl
  go_wp2_with fail
  refine D3.out.mono ?_; rintro e W10 ⟨A3, c3, rfl, o3, b10⟩
  obtain ⟨P5, hP5⟩ : ∃ P5, P5 = W10.alloc (.cells #[.int .i64 U.w, .int .i64 U.h, .slice A3 U.cells.length c3, .int .i64 U.x, .int .i64 U.y, .bool U.shown] 24) := ⟨_, rfl⟩
  have p5 : Below W10.heap.size W10 P5 := by rw [hP5]; exact (Below.refl _ W10).alloc Xm _
  have KP5 : Blk P5 W10.heap.size [.int .i64 U.w, .int .i64 U.h, .slice A3 U.cells.length c3, .int .i64 U.x, .int .i64 U.y, .bool U.shown] := by rw [hP5]; exact Blk.new W10 _ _
  have B15 := H19.out.trans ((b10.trans (p5.mono b10.size)).mono H19.out.size)
  have H15 := Xk B15
  have ku := HKU1.out.keep B15 HSU.out
  have I3 := kN U A3 A0 c3 c0 (by have := HUL.out; omega) P5 (SeesT.of_own (zD o3 p5)).sees (SeesT.of_own (zD HO01.out B15)).sees
  simp only [scrV] at I3
  have I3 := Xk I3
  have HP5 := Xk hP5
  clear x0 x1 x2 x3 x4 x5
  have x0 := KP5.c 0 _ rfl
  have x1 := KP5.c 1 _ rfl
  have x2 := KP5.c 2 _ rfl
  have x3 := KP5.c 3 _ rfl
  have x4 := KP5.c 4 _ rfl
  have x5 := KP5.c 5 _ rfl
  have y0 := ku.c 0 _ rfl
  have y1 := ku.c 1 _ rfl
  have y2 := ku.c 2 _ rfl
  have y3 := ku.c 3 _ rfl
  have y4 := ku.c 4 _ rfl
  have y5 := ku.c 5 _ rfl
  clear D3 o3 b10 hP5 p5 KP5 B15 ku
  go_upto_region 10 with fail
  rw [<- HP5.out]
  clear HP5
  go_wp2_with fail
  refine I3.out.mono ?_; rintro e W11 ⟨rfl, b11⟩
  have B11 := H15.out.trans (b11.mono H15.out.size)
  have BZ := HB1.out.trans (B11.mono HB1.out.size)
  have WK := Xk (Qj W11 (E.out.of_below BZ Xm))
  have HBZ := Xk (HB.out.trans (BZ.mono HB.out.size))
  clear I3 b11 B11 BZ x0 x1 x2 x3 x4 x5 y0 y1 y2 y3 y4 y5
  go_wp2_with fail
  refine WK.out.mono ?_; rintro e W13 ⟨rfl, b13⟩
  have HBF := Xk (HBZ.out.trans (b13.mono HBZ.out.size))
  clear b13 WK
  go_wp2_with fail
  go_ret
  exact ⟨by rfl, HBF.out⟩
end
end
end Go.Proofs.YtifoijbpbigaaaaGreatDoor
