/- DiffChanged: the walk. -/
import Derived.Test.YtifoijbpbigaaaaGreatDoorDaCH
import Derived.Test.YtifoijbpbigaaaaGreatDoorDaCI
set_option linter.unusedVariables false
set_option linter.unusedSimpArgs false
namespace Go.Proofs.YtifoijbpbigaaaaGreatDoor
section
open Go Go.RowKit Go.Sort
section
theorem j4 {g c LO : Nat} {s : Scr} {V : World} (h : V.ownsRow LO 58 5 (.slice (some ⟨g, 0, none⟩) (s.cells.length + 2) c) (s.cells.length + 2) (zc (s.cells ++ [bhC, biC]))) : Sees V V.heap.size (some ⟨g, 0, none⟩) (zc (jd s)) := fun _ => by
 rcases h.2 with ⟨z, _⟩ | ⟨g', cap, cur, z, hb, hg, hn, _⟩
 ·cases z
 ·injection z with z1 z2 z3
  injection z1 with z1
  injection z1 with z1
  subst z1
  exact ⟨_, rfl, (Array.getElem?_eq_some_iff.1 hg).1, fun j x hj => h.cells (g := g) rfl j x hj⟩
theorem vf {g : Nat} {s : Scr} {V : World} (h : Sees V V.heap.size (some ⟨g, 0, none⟩) (zc (jd s))) : Sees V V.heap.size (some ⟨g, 0, none⟩) (zc s.cells) := by
 have q := Sees.takeV (s.cells.length * 5) h
 rw [<- xJ] at q
 unfold jd at q
 rw [List.take_left] at q
 exact q
theorem Xe (a b : Scr) : (qh a b).length <= b.cells.length := by
 unfold qh
 split
 ·rename_i h
  unfold qg at h
  split at h
  ·cases h
  ·rename_i n1
   split at h
   ·cases h
   ·rename_i n2
    have ra : zh a = true := by
     by_cases z : zh a = false
     ·exact absurd (Or.inl z) n1
     ·simpa using z
    have rb : zh b = true := by
     by_cases z : zh b = false
     ·exact absurd (Or.inr z) n1
     ·simpa using z
    have ew : a.w = b.w := by
     by_cases z : a.w = b.w
     ·exact z
     ·exact absurd (Or.inl z) n2
    have eh : a.h = b.h := by
     by_cases z : a.h = b.h
     ·exact z
     ·exact absurd (Or.inr z) n2
    have h1 := (zQ ra).2.1
    have h2 := (zQ rb).2.1
    rw [ew, eh] at h1
    exact ZX b.cells (jR rb) 0 a.cells (by omega)
 ·exact Nat.zero_le _
set_option maxHeartbeats 64000000 in
set_option maxRecDepth 100000 in
theorem Xf (t u : SA) (w : World) (E : EnvD w) (hs : ScrD w t) (hu : ScrD w u) (ot : ∀ x ∈ t.s.cells, zy x.st.fg /\ zy x.st.bg) (ou : ∀ x ∈ u.s.cells, zy x.st.fg /\ zy x.st.bg) :
  Calls Tryz.prog 4 #[.agg #[.int .i64 t.s.w, .int .i64 t.s.h, .slice t.A t.s.cells.length t.c, .int .i64 t.s.x, .int .i64 t.s.y, .bool t.s.shown], .agg #[.int .i64 u.s.w, .int .i64 u.s.h, .slice u.A u.s.cells.length u.c, .int .i64 u.s.x, .int .i64 u.s.y, .bool u.s.shown]] w fun e w' => e = .returned (.bool true) /\ Below w.heap.size w w' := by
 obtain ⟨V1, hV1⟩ : ∃ V1, V1 = (w.alloc (.cells #[.int .i64 t.s.w, .int .i64 t.s.h, .slice t.A t.s.cells.length t.c, .int .i64 t.s.x, .int .i64 t.s.y, .bool t.s.shown] 24)).alloc (.cells #[.int .i64 u.s.w, .int .i64 u.s.h, .slice u.A u.s.cells.length u.c, .int .i64 u.s.x, .int .i64 u.s.y, .bool u.s.shown] 24) := ⟨_, rfl⟩
 have B1 : Below w.heap.size w V1 := by rw [hV1]; exact ((Below.refl _ w).alloc Xm _).alloc (by simp) _
 have Z1 : V1.heap.size = w.heap.size + 2 := by rw [hV1]; simp
 have K1 : Blk V1 w.heap.size [.int .i64 t.s.w, .int .i64 t.s.h, .slice t.A t.s.cells.length t.c, .int .i64 t.s.x, .int .i64 t.s.y, .bool t.s.shown] := by
  rw [hV1]
  exact (Blk.new w [.int .i64 t.s.w, .int .i64 t.s.h, .slice t.A t.s.cells.length t.c, .int .i64 t.s.x, .int .i64 t.s.y, .bool t.s.shown] 24).alloc _
 have K2 : Blk V1 (w.heap.size + 1) [.int .i64 u.s.w, .int .i64 u.s.h, .slice u.A u.s.cells.length u.c, .int .i64 u.s.x, .int .i64 u.s.y, .bool u.s.shown] := by
  have := Blk.new (w.alloc (.cells #[.int .i64 t.s.w, .int .i64 t.s.h, .slice t.A t.s.cells.length t.c, .int .i64 t.s.x, .int .i64 t.s.y, .bool t.s.shown] 24)) [.int .i64 u.s.w, .int .i64 u.s.h, .slice u.A u.s.cells.length u.c, .int .i64 u.s.x, .int .i64 u.s.y, .bool u.s.shown] 24
  have e : (w.alloc (.cells #[.int .i64 t.s.w, .int .i64 t.s.h, .slice t.A t.s.cells.length t.c, .int .i64 t.s.x, .int .i64 t.s.y, .bool t.s.shown] 24)).heap.size = w.heap.size + 1 := by simp
  rw [e] at this
  rw [hV1]
  exact this
 obtain ⟨Q, hQ⟩ : ∃ Q, Q = V1.alloc (.cells #[.int .i64 t.s.w, .int .i64 t.s.h, .slice t.A t.s.cells.length t.c, .int .i64 t.s.x, .int .i64 t.s.y, .bool t.s.shown, .int .i64 u.s.w, .int .i64 u.s.h, .slice u.A u.s.cells.length u.c, .int .i64 u.s.x, .int .i64 u.s.y, .bool u.s.shown, .int .i64 t.s.w, .int .i64 t.s.h, .slice t.A t.s.cells.length t.c, .int .i64 t.s.x, .int .i64 t.s.y, .bool t.s.shown, .int .i64 u.s.w, .int .i64 u.s.h, .slice u.A u.s.cells.length u.c, .int .i64 u.s.x, .int .i64 u.s.y, .bool u.s.shown, .int .i64 t.s.w, .int .i64 t.s.h, .slice t.A t.s.cells.length t.c, .int .i64 t.s.x, .int .i64 t.s.y, .bool t.s.shown, .int .i64 u.s.w, .int .i64 u.s.h, .slice u.A u.s.cells.length u.c, .int .i64 u.s.x, .int .i64 u.s.y, .bool u.s.shown] 24) := ⟨_, rfl⟩
 have B2 : Below V1.heap.size V1 Q := by rw [hQ]; exact (Below.refl _ _).alloc Xm _
 have BQ : Below w.heap.size w Q := B1.trans (B2.mono B1.size)
 have KT : Blk Q w.heap.size [.int .i64 t.s.w, .int .i64 t.s.h, .slice t.A t.s.cells.length t.c, .int .i64 t.s.x, .int .i64 t.s.y, .bool t.s.shown] := K1.keep B2 (by omega)
 have KU : Blk Q (w.heap.size + 1) [.int .i64 u.s.w, .int .i64 u.s.h, .slice u.A u.s.cells.length u.c, .int .i64 u.s.x, .int .i64 u.s.y, .bool u.s.shown] := K2.keep B2 (by omega)
 have BY := Qn [t, u, t, u, t, u] (some ⟨w.heap.size + 2, 0, none⟩) 6 Q (by
  have := Qr V1 [t, u, t, u, t, u] 24
  rw [hQ, <- Z1]
  exact this) (by show 6 <= _; omega) (Qs (fun x hx => by
   have : x = t \/ x = u := by
    simp at hx
    rcases hx with h | h | h | h | h | h <;> simp [h]
   rcases this with rfl | rfl
   ·exact hs.below BQ
   ·exact hu.below BQ))
 have TT : zE [t, u, t, u, t, u] <= 134217728 -> bulk t.s.cells <= 134217728 /\ bulk u.s.cells <= 134217728 := by
  intro h
  simp [zE] at h
  omega
 have HG := Xk (show decide (134217728 < zE [t, u, t, u, t, u]) = false -> (ScrAt Q Q.heap.size t.s t.A t.c /\ ScrAt Q Q.heap.size u.s u.A u.c /\ (∀ x ∈ t.s.cells, okR x) /\ (∀ x ∈ u.s.cells, okR x) /\ t.s.cells.length <= 134217728 /\ u.s.cells.length <= 134217728) from fun h => by
  have h := of_decide_eq_false h
  obtain ⟨b1, b2⟩ := TT (by omega)
  have s1 := ((hs.below BQ).at b1).1
  have s2 := ((hu.below BQ).at b2).1
  have n1 := xX t.s.cells
  have n2 := xX u.s.cells
  refine ⟨s1, s2, fun x hx => ?_, fun x hx => ?_, by omega, by omega⟩
  ·have := xY hx
   have ok := s1.ok x hx
   exact ⟨by omega, ok.2.1, ok.2.2, (ot x hx).1, (ot x hx).2⟩
  ·have := xY hx
   have ok := s2.ok x hx
   exact ⟨by omega, ok.2.1, ok.2.2, (ou x hx).1, (ou x hx).2⟩)
 have KTH := Xk KT
 have KUH := Xk KU
 have E := Xk (E.of_below BQ Xm)
 have HB := Xk BQ
 have QSH : Hid (Q.heap.size = w.heap.size + 3) := Xk (by rw [hQ]; simp [Z1])
 have H1 := Xk hV1
 have HQ := Xk hQ
 have HK1 := Xk K1
 have HK2 := Xk K2
 have HZ1 := Xk Z1
 generalize decide (134217728 < zE [t, u, t, u, t, u]) = G at *
 have BY := Xk BY
 clear hs hu KT KU BQ B1 B2 TT hV1 hQ K1 K2 Z1 ot ou
 simp only [List.length_cons, List.length_nil, Nat.zero_add, Nat.reduceAdd] at BY
 go_enter Tryz.func4, Tryz.ntmps4
 go_upto_region 1 with fail
 rw [<- H1.out]
 clear H1
 have k0 := HK1.out.c 0 _ rfl
 have k1 := HK1.out.c 1 _ rfl
 have k2 := HK1.out.c 2 _ rfl
 have k3 := HK1.out.c 3 _ rfl
 have k4 := HK1.out.c 4 _ rfl
 have k5 := HK1.out.c 5 _ rfl
 have l0 := HK2.out.c 0 _ rfl
 have l1 := HK2.out.c 1 _ rfl
 have l2 := HK2.out.c 2 _ rfl
 have l3 := HK2.out.c 3 _ rfl
 have l4 := HK2.out.c 4 _ rfl
 have l5 := HK2.out.c 5 _ rfl
 go_wp2_with fail
 rw [HZ1.out, <- HQ.out]
 clear HQ k0 k1 k2 k3 k4 k5 l0 l1 l2 l3 l4 l5 HK1 HK2
 refine BY.out.mono ?_; rintro e w1 ⟨rfl, hw⟩
 rw [<- hw]
 clear hw BY
 cases G with
 | true =>
  go_wp2_with fail
  go_ret
  exact ⟨rfl, HB.out⟩
 | false =>
  obtain ⟨sa, sb, oka, okb, na, nb⟩ := HG.out rfl
  have HSA := Xk sa
  have HSB := Xk sb
  have HOA := Xk oka
  have HOB := Xk okb
  have k0 := KTH.out.c 0 _ rfl
  have k1 := KTH.out.c 1 _ rfl
  have k2 := KTH.out.c 2 _ rfl
  have k3 := KTH.out.c 3 _ rfl
  have k4 := KTH.out.c 4 _ rfl
  have k5 := KTH.out.c 5 _ rfl
  have l0 := KUH.out.c 0 _ rfl
  have l1 := KUH.out.c 1 _ rfl
  have l2 := KUH.out.c 2 _ rfl
  have l3 := KUH.out.c 3 _ rfl
  have l4 := KUH.out.c 4 _ rfl
  have l5 := KUH.out.c 5 _ rfl
  have RC := JF t.s u.s t.A u.A t.c u.c sa.cap sb.cap sa.nil sb.nil (by omega) (by omega) oka okb Q sa.sees sb.sees
  simp only [scrV] at RC
  have RC := Xk RC
  clear sa sb oka okb HG
  go_wp2_with fail
  refine RC.out.mono ?_; rintro e W1 ⟨v0, rfl, o0, b1⟩
  obtain ⟨CL, hCL⟩ : ∃ CL, CL = qh t.s u.s := ⟨_, rfl⟩
  obtain ⟨CD, hCD⟩ : ∃ CD, CD = qg t.s u.s := ⟨_, rfl⟩
  rw [<- hCL] at o0
  rw [<- hCD]
  obtain ⟨A0, c0, e0⟩ := qX o0
  subst e0
  have HCL := Xk hCL
  have HCD := Xk hCD
  have HO0 := Xk o0
  have HB1 := Xk b1
  have gt : w.heap.size < Q.heap.size := by rw [QSH.out]; omega
  have gu : w.heap.size + 1 < Q.heap.size := by rw [QSH.out]; omega
  have HGT := Xk (And.intro gt gu)
  have LT := Xk (kQ t.s t.A t.c HSA.out.cap HSA.out.nil (by omega) W1 ((HSA.out.sees.below b1 Xm).more b1.size))
  have kt := KTH.out.keep b1 gt
  have m0 := kt.c 0 _ rfl
  have m1 := kt.c 1 _ rfl
  have m2 := kt.c 2 _ rfl
  have m3 := kt.c 3 _ rfl
  have m4 := kt.c 4 _ rfl
  have m5 := kt.c 5 _ rfl
  clear k0 k1 k2 k3 k4 k5 l0 l1 l2 l3 l4 l5 RC o0 hCL hCD b1 kt gt gu
  unfold xp at LT
  simp only [scrV] at LT
  go_wp2_with fail
  refine LT.out.mono ?_; rintro e W2 ⟨ga, ca, rfl, fa, b2⟩
  have la : t.s.cells.length + 2 <= ca := by
   rcases fa.2 with ⟨z, _⟩ | ⟨g, cap, cur, z, _, _, hn, _⟩
   ·cases z
   ·injection z with z1 z2 z3; omega
  obtain ⟨P1, hP1⟩ : ∃ P1, P1 = W2.alloc (.cells #[.int .i64 t.s.w, .int .i64 t.s.h, .slice (some ⟨ga, 0, none⟩) t.s.cells.length ca, .int .i64 t.s.x, .int .i64 t.s.y, .bool t.s.shown] 24) := ⟨_, rfl⟩
  have p1 : Below W2.heap.size W2 P1 := by rw [hP1]; exact (Below.refl _ W2).alloc Xm _
  have KP1 : Blk P1 W2.heap.size [.int .i64 t.s.w, .int .i64 t.s.h, .slice (some ⟨ga, 0, none⟩) t.s.cells.length ca, .int .i64 t.s.x, .int .i64 t.s.y, .bool t.s.shown] := by rw [hP1]; exact Blk.new W2 _ _
  have s1 : W2.heap.size < P1.heap.size := by rw [hP1]; simp
  have B12 := b2.trans (p1.mono b2.size)
  have HFA := Xk (zD fa p1)
  have HLA := Xk la
  have HB2 := Xk (HB1.out.trans (B12.mono HB1.out.size))
  have HW1 := Xk B12
  have HP1 := Xk hP1
  have HKP1 := Xk KP1
  have HS1 := Xk s1
  have LU := Xk (kQ u.s u.A u.c HSB.out.cap HSB.out.nil (by omega) P1 ((HSB.out.sees.below HB2.out Xm).more HB2.out.size))
  have ku := KUH.out.keep HB2.out HGT.out.2
  have r0 := ku.c 0 _ rfl
  have r1 := ku.c 1 _ rfl
  have r2 := ku.c 2 _ rfl
  have r3 := ku.c 3 _ rfl
  have r4 := ku.c 4 _ rfl
  have r5 := ku.c 5 _ rfl
  clear m0 m1 m2 m3 m4 m5 LT fa b2 la hP1 p1 KP1 s1 B12 ku
  unfold xp at LU
  simp only [scrV] at LU
  go_upto_region 5 with fail
  rw [<- HP1.out]
  clear HP1
  go_wp2_with fail
  refine LU.out.mono ?_; rintro e W3 ⟨gb, cb, rfl, fb, b3⟩
  have lb : u.s.cells.length + 2 <= cb := by
   rcases fb.2 with ⟨z, _⟩ | ⟨g, cap, cur, z, _, _, hn, _⟩
   ·cases z
   ·injection z with z1 z2 z3; omega
  obtain ⟨P2, hP2⟩ : ∃ P2, P2 = W3.alloc (.cells #[.int .i64 u.s.w, .int .i64 u.s.h, .slice (some ⟨gb, 0, none⟩) u.s.cells.length cb, .int .i64 u.s.x, .int .i64 u.s.y, .bool u.s.shown] 24) := ⟨_, rfl⟩
  have p2 : Below W3.heap.size W3 P2 := by rw [hP2]; exact (Below.refl _ W3).alloc Xm _
  have KP2 : Blk P2 W3.heap.size [.int .i64 u.s.w, .int .i64 u.s.h, .slice (some ⟨gb, 0, none⟩) u.s.cells.length cb, .int .i64 u.s.x, .int .i64 u.s.y, .bool u.s.shown] := by rw [hP2]; exact Blk.new W3 _ _
  have B23 := b3.trans (p2.mono b3.size)
  have HFB := Xk (zD fb p2)
  have HFA2 := Xk (zD HFA.out B23)
  have HB3 := Xk (HB2.out.trans (B23.mono HB2.out.size))
  have HW2 := Xk (HW1.out.trans (B23.mono HW1.out.size))
  have KP1 := HKP1.out.keep B23 HS1.out
  have s2 : W3.heap.size < P2.heap.size := by rw [hP2]; simp
  have HS12 := Xk (Nat.lt_of_lt_of_le HS1.out B23.size)
  have HP2 := Xk hP2
  have HKA := Xk KP1
  have HKB := Xk KP2
  have HS2 := Xk s2
  have HLB := Xk lb
  have DC := Xk (fun (V : World) (hV : Below P2.heap.size P2 V) => Z2 t.s u.s (some ⟨ga, 0, none⟩) (some ⟨gb, 0, none⟩) ca cb V
   ⟨by have := HLA.out; omega, (fun z => by cases z), by omega, fun x hx => ⟨by have := (HOA.out x hx).sz; omega, (HOA.out x hx).w0, (HOA.out x hx).w1⟩, vf (j4 (zD HFA2.out hV))⟩
   ⟨by have := HLB.out; omega, (fun z => by cases z), by omega, fun x hx => ⟨by have := (HOB.out x hx).sz; omega, (HOB.out x hx).w0, (HOB.out x hx).w1⟩, vf (j4 (zD HFB.out hV))⟩)
  rw [<- HCL.out, <- HCD.out] at DC
  simp only [scrV] at DC
  have D1 := Xk (DC.out P2 (Below.refl _ _))
  have x0 := KP1.c 0 _ rfl
  have x1 := KP1.c 1 _ rfl
  have x2 := KP1.c 2 _ rfl
  have x3 := KP1.c 3 _ rfl
  have x4 := KP1.c 4 _ rfl
  have x5 := KP1.c 5 _ rfl
  have y0 := KP2.c 0 _ rfl
  have y1 := KP2.c 1 _ rfl
  have y2 := KP2.c 2 _ rfl
  have y3 := KP2.c 3 _ rfl
  have y4 := KP2.c 4 _ rfl
  have y5 := KP2.c 5 _ rfl
  clear r0 r1 r2 r3 r4 r5 LU fb b3 lb hP2 p2 KP1 KP2 B23 s2 HFA HKP1 HS1
  go_upto_region 6 with fail
  rw [<- HP2.out]
  clear HP2
  go_wp2_with fail
  refine D1.out.mono ?_; rintro e W4 ⟨v1, rfl, o1, b4⟩
  have LN : Hid (CL.length <= 1000000000) := Xk (by
   have := Xe t.s u.s
   rw [<- HCL.out] at this
   omega)
  obtain ⟨A1, c1, e1⟩ := qX o1
  subst e1
  have HO1 := Xk o1
  have HO1L : Hid (∀ g, (Value.slice A1 CL.length c1).ownBlock = some g -> g < W4.heap.size) := Xk (fun g hg => (o1.lt g hg).2)
  have HB4 := Xk b4
  have D2 := Xk (DC.out W4 b4)
  have k1 := HKA.out.keep b4 HS12.out
  have k2 := HKB.out.keep b4 HS2.out
  have x0 := k1.c 0 _ rfl
  have x1 := k1.c 1 _ rfl
  have x2 := k1.c 2 _ rfl
  have x3 := k1.c 3 _ rfl
  have x4 := k1.c 4 _ rfl
  have x5 := k1.c 5 _ rfl
  have y0 := k2.c 0 _ rfl
  have y1 := k2.c 1 _ rfl
  have y2 := k2.c 2 _ rfl
  have y3 := k2.c 3 _ rfl
  have y4 := k2.c 4 _ rfl
  have y5 := k2.c 5 _ rfl
  clear o1 b4 D1 k1 k2
  go_wp2_with fail
  refine D2.out.mono ?_; rintro e W5 ⟨v2, rfl, o2, b5⟩
  obtain ⟨A2, c2, e2⟩ := qX o2
  subst e2
  have HO2 := Xk o2
  have HB5 := Xk (HB4.out.trans (b5.mono HB4.out.size))
  have H45 := Xk b5.size
  have HO1 := Xk (zF HO1.out b5)
  clear o2 b5 D2 x0 x1 x2 x3 x4 x5 y0 y1 y2 y3 y4 y5
  have I1 := Xk (fun (V : World) (hV : Below W5.heap.size W5 V) => xT A1 A0 c1 c0 CL (by have := LN.out; omega) V (Sees.of_own (zF HO1.out hV)) (Sees.of_own (zF HO0.out (HW2.out.trans ((HB5.out.trans (hV.mono HB5.out.size)).mono HW2.out.size)))))
  have I2 := Xk (fun (V : World) (hV : Below W5.heap.size W5 V) => xT A2 A0 c2 c0 CL (by have := LN.out; omega) V (Sees.of_own (zF HO2.out hV)) (Sees.of_own (zF HO0.out (HW2.out.trans ((HB5.out.trans (hV.mono HB5.out.size)).mono HW2.out.size)))))
  have IA := Xk (fun (V : World) (hV : Below W5.heap.size W5 V) => kR t.s ga ca t.c t.A (by omega) HLA.out V (j4 (zD HFA2.out (HB5.out.trans (hV.mono HB5.out.size)))) ((HSA.out.sees.below (HB3.out.trans ((HB5.out.trans (hV.mono HB5.out.size)).mono HB3.out.size)) Xm).more (HB3.out.trans ((HB5.out.trans (hV.mono HB5.out.size)).mono HB3.out.size)).size))
  have IB := Xk (fun (V : World) (hV : Below W5.heap.size W5 V) => kR u.s gb cb u.c u.A (by omega) HLB.out V (j4 (zD HFB.out (HB5.out.trans (hV.mono HB5.out.size)))) ((HSB.out.sees.below (HB3.out.trans ((HB5.out.trans (hV.mono HB5.out.size)).mono HB3.out.size)) Xm).more (HB3.out.trans ((HB5.out.trans (hV.mono HB5.out.size)).mono HB3.out.size)).size))
  simp only [scrV] at IA IB
  have J1 := Xk (I1.out W5 (Below.refl _ _))
  have dn : decide (CD = CD) = true := by simp
  go_upto_region 8 with fail
  go_wp2_with fail
  refine J1.out.mono ?_; rintro e W6 ⟨rfl, b6⟩
  have J2 := Xk (I2.out W6 b6)
  have H6 := Xk b6
  clear J1 b6
  go_wp2_with fail
  refine J2.out.mono ?_; rintro e W7 ⟨rfl, b7⟩
  have H7 := Xk (H6.out.trans (b7.mono H6.out.size))
  have J3 := Xk (IA.out W7 H7.out)
  have BQ7 := HB3.out.trans ((HB5.out.trans (H7.out.mono HB5.out.size)).mono HB3.out.size)
  have k1 := KTH.out.keep BQ7 HGT.out.1
  have x0 := k1.c 0 _ rfl
  have x1 := k1.c 1 _ rfl
  have x2 := k1.c 2 _ rfl
  have x3 := k1.c 3 _ rfl
  have x4 := k1.c 4 _ rfl
  have x5 := k1.c 5 _ rfl
  clear J2 b7 BQ7 k1 H6
  go_wp2_with fail
  refine J3.out.mono ?_; rintro e W8 ⟨rfl, b8⟩
  have H8 := Xk (H7.out.trans (b8.mono H7.out.size))
  have J4 := Xk (IB.out W8 H8.out)
  have BQ8 := HB3.out.trans ((HB5.out.trans (H8.out.mono HB5.out.size)).mono HB3.out.size)
  have k2 := KUH.out.keep BQ8 HGT.out.2
  have y0 := k2.c 0 _ rfl
  have y1 := k2.c 1 _ rfl
  have y2 := k2.c 2 _ rfl
  have y3 := k2.c 3 _ rfl
  have y4 := k2.c 4 _ rfl
  have y5 := k2.c 5 _ rfl
  clear J3 b8 BQ8 k2 H7 x0 x1 x2 x3 x4 x5
  go_wp2_with fail
  refine J4.out.mono ?_; rintro e W9 ⟨rfl, b9⟩
  have H9 := H8.out.trans (b9.mono H8.out.size)
  have B59 := HB5.out.trans (H9.mono HB5.out.size)
  have M0 : Hid (MidI P2 W4.heap.size W9.heap.size W9 CL.length (.slice A1 CL.length c1) CL W9) := Xk ⟨zF HO1.out H9, B59, fun _ _ _ => rfl, fun g hg => Or.inl (by
   have := (HO1L.out g hg)
   exact this), Xm⟩
  have O2 := Xk (zF HO2.out H9)
  have HB9 := Xk B59
  clear J4 b9 H9 B59 y0 y1 y2 y3 y4 y5 IA IB I1 I2 H8 HO1 HO2 dn
  obtain ⟨N, hN⟩ : ∃ N, N = CL.length := ⟨_, rfl⟩
  have HN := Xk hN
  rw [<- hN] at M0 LN O2 ⊢
  clear hN
  go_wp2_with fail
  go_loopw [15] (fun s12 wr => ∃ (j : Nat) (xs : List Int), j <= N /\ s12 = .int .i64 (j : Int) /\ Hid (MidI P2 W4.heap.size W9.heap.size W9 N (.slice A1 N c1) xs wr)) (fun s12 _ => N - (intOf s12).toNat)
  case atStart => exact ⟨0, CL, Nat.zero_le _, rfl, M0⟩
  case round =>
   obtain ⟨j, xs, hj, rfl, hm⟩ := hrel
   clear M0
   have ln := LN.out
   by_cases lt : j < N
   ·obtain ⟨g, c', e⟩ := kS hm.out.own (fun z => by injection z with _ z _; omega)
    injection e with e1 e2 e3
    subst e1
    obtain ⟨⟨u0, x1⟩, x2, x3⟩ := hm.out.put (b := -7) lt
    have HX := Xk x3
    have q0 : (0 : Int) <= (j : Int) := by omega
    have q5 : (j : Int) < (N : Int) := by omega
    have tn : (j : Int).toNat = j := by omega
    have wk := Xl ((j : Int) + 1) (by omega)
    clear x3 hm e2 e3
    go_wp2_with fail
    go_roundw
    case rel => exact ⟨j + 1, _, by omega, by go_num, HX⟩
    case measure => simp [intOf]; omega
   ·have e : j = N := by omega
    subst e
    have q5 : ¬ (j : Int) < (j : Int) := by omega
    go_wp2_with fail
    go_loopw [16, 17] (fun s8 s13 wr => ∃ (i : Nat) (A' : Option Addr) (c' : Nat) (xs : List Int), i <= 70 /\ s8 = .slice A' (j + i) c' /\ s13 = .int .i64 (i : Int) /\ Hid (MidI P2 W4.heap.size W9.heap.size W9 (j + i) (.slice A' (j + i) c') xs wr)) (fun _ s13 _ => 70 - (intOf s13).toNat)
    case atStart => exact ⟨0, A1, c1, xs, Nat.zero_le _, rfl, rfl, hm⟩
    case round =>
     obtain ⟨i, A', c', ys, hi, rfl, rfl, hm⟩ := hrel
     by_cases l7 : i < 70
     ·obtain ⟨A3, c3, w3, R, X3⟩ := hm.out.app (-8) (by omega)
      have HX := Xk X3
      obtain ⟨ji, hji⟩ : ∃ ji, ji = j + i := ⟨_, rfl⟩
      have hji1 : j + (i + 1) = ji + 1 := by omega
      rw [<- hji] at R HX ⊢
      have HJ := Xk hji1
      have p5 : (i : Int) < 70 := by omega
      have wj := Xl ((i : Int) + 1) (by omega)
      clear X3 hm hji hji1
      go_wp2_with (first | (at_builtin; refine jl rfl (.tmp 102) (.tmp 103) 38 38 rfl _ _ _ _ rfl rfl R ?_) | fail)
      go_roundw
      case rel => exact ⟨i + 1, A3, c3, _, by omega, by rw [HJ.out], by go_num, Xk (by rw [HJ.out]; exact HX.out)⟩
      case measure => simp [intOf]; omega
     ·have e : i = 70 := by omega
      subst e
      have p5 : ¬ ((70 : Nat) : Int) < 70 := by omega
      have x := hm.out
      have D3 := Xk (DC.out wr x.bel)
      have k1 := HKA.out.keep x.bel HS12.out
      have k2 := HKB.out.keep x.bel HS2.out
      have x0 := k1.c 0 _ rfl
      have x1 := k1.c 1 _ rfl
      have x2 := k1.c 2 _ rfl
      have x3 := k1.c 3 _ rfl
      have x4 := k1.c 4 _ rfl
      have x5 := k1.c 5 _ rfl
      have y0 := k2.c 0 _ rfl
      have y1 := k2.c 1 _ rfl
      have y2 := k2.c 2 _ rfl
      have y3 := k2.c 3 _ rfl
      have y4 := k2.c 4 _ rfl
      have y5 := k2.c 5 _ rfl
      have HX := Xk x
      have OM := Xk (x.other rfl O2.out)
      clear x hm k1 k2
      go_wp2_with fail
      refine D3.out.mono ?_; rintro e W10 ⟨v3, rfl, o3, b10⟩
      rw [<- HN.out] at o3
      obtain ⟨A3, c3, e3⟩ := qX o3
      subst e3
      have B10 := HX.out.bel.trans (b10.mono HX.out.bel.size)
      have HO3 := Xk o3
      have HB10 := Xk B10
      have OM := Xk (zF OM.out b10)
      have I1 := Xk (fun (V : World) (hV : Below W10.heap.size W10 V) => xT A2 A0 c2 c0 CL (by rw [<- HN.out]; omega) V (Sees.of_own (zF OM.out hV)) (Sees.of_own (zF HO0.out (HW2.out.trans ((HB10.out.trans (hV.mono HB10.out.size)).mono HW2.out.size)))))
      have I2 := Xk (fun (V : World) (hV : Below W10.heap.size W10 V) => xT A3 A0 c3 c0 CL (by rw [<- HN.out]; omega) V (Sees.of_own (zF HO3.out hV)) (Sees.of_own (zF HO0.out (HW2.out.trans ((HB10.out.trans (hV.mono HB10.out.size)).mono HW2.out.size)))))
      rw [<- HN.out] at I1 I2
      have J1 := Xk (I1.out W10 (Below.refl _ _))
      clear b10 B10 o3 D3 x0 x1 x2 x3 x4 x5 y0 y1 y2 y3 y4 y5
      have wl := Xl ((j : Int) + 70) (by omega)
      go_wp2_with fail
      refine J1.out.mono ?_; rintro e W11 ⟨rfl, b11⟩
      have J2 := Xk (I2.out W11 b11)
      have H11 := Xk b11
      clear J1 b11
      go_wp2_with fail
      refine J2.out.mono ?_; rintro e W12 ⟨rfl, b12⟩
      have H12 := H11.out.trans (b12.mono H11.out.size)
      have BZ := HB3.out.trans ((HB10.out.trans (H12.mono HB10.out.size)).mono HB3.out.size)
      have WK := Xk (Qj W12 (E.out.of_below BZ Xm))
      have HBZ := Xk (HB.out.trans (BZ.mono HB.out.size))
      clear J2 b12 H12 BZ I1 I2
      go_wp2_with fail
      refine WK.out.mono ?_; rintro e W13 ⟨rfl, b13⟩
      have HBF := Xk (HBZ.out.trans (b13.mono HBZ.out.size))
      clear b13 WK
      go_wp2_with fail
      go_ret
      exact ⟨by rfl, HBF.out⟩
end
end
end Go.Proofs.YtifoijbpbigaaaaGreatDoor
