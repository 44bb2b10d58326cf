/- Angle, strength and lightness of a colour: the walk of the program's ToHSL. -/
import Derived.Test.YtpbpkdhdjdaiiaaDoorTslP
import Derived.Test.YtpbpkdhdjdaiiaaDoorModW
import Derived.Laws.Cover2
namespace Go.Proofs.YtpbpkdhdjdaiiaaDoor
open Go.RowKit Flt

/-- two floats that are the same number? -/
theorem feq {x y : Nat} (hx : Fnt x) (hy : Fnt y) : (FloatKind.f64.format.order x y == some .eq) = decide (val x = val y) := by
  have o := (order_eq hx hy).2.1
  show (Ieee.double.order x y == some .eq) = _
  rw [Bool.eq_iff_iff, decide_eq_true_iff, ← o, beq_iff_eq]
theorem flt {x y : Nat} (hx : Fnt x) (hy : Fnt y) : (FloatKind.f64.format.order x y == some .lt) = decide (val x < val y) := by
  have o := (order_eq hx hy).1
  show (Ieee.double.order x y == some .lt) = _
  rw [Bool.eq_iff_iff, decide_eq_true_iff, ← o, beq_iff_eq]
theorem fgt {x y : Nat} (hx : Fnt x) (hy : Fnt y) : (FloatKind.f64.format.order x y == some .gt) = decide (val y < val x) := by
  have o := (order_eq hx hy).2.2
  show (Ieee.double.order x y == some .gt) = _
  rw [Bool.eq_iff_iff, decide_eq_true_iff, ← o, beq_iff_eq]

def flat (c : Int) : Bool := mn (chR c) (chG c) (chB c) == mx (chR c) (chG c) (chB c)
def hueC (c : Int) : Nat := if hasC c = true ∧ flat c = false then fmul 4633641066610819072 (hueW (chR c) (chG c) (chB c)) else 0
def satC (c : Int) : Nat := if hasC c = true ∧ flat c = false then fminW (fdiv (dW (mx (chR c) (chG c) (chB c)) (mn (chR c) (chG c) (chB c))) (qW (mx (chR c) (chG c) (chB c)) (mn (chR c) (chG c) (chB c)))) 4607182418800017408 else 0
def litC (c : Int) : Nat := if hasC c = true then lW (mx (chR c) (chG c) (chB c)) (mn (chR c) (chG c) (chB c)) else 0

/-- what a walk of ToHSL leans on ahead of the test on grey -/
structure TslA (R G B H L : Int) : Prop where
  fR : Fnt (floatOfInt .f64 R)
  fG : Fnt (floatOfInt .f64 G)
  fB : Fnt (floatOfInt .f64 B)
  cR : Fnt (cw R)
  cG : Fnt (cw G)
  cB : Fnt (cw B)
  cH : Fnt (cw H)
  cL : Fnt (cw L)
  fd : Fnt (dW H L)
  fs : Fnt (fadd (cw H) (cw L))
  fl : Fnt (lW H L)
  bD : (FloatKind.f64.format.order (dW H L) 0 == some .eq) = (L == H)
  mxE : fmaxW (fmaxW (cw R) (cw G)) (cw B) = cw H
  mnE : fminW (fminW (cw R) (cw G)) (cw B) = cw L

theorem tslA (R G B : Int) (rr : 0 ≤ R ∧ R ≤ 255) (gr : 0 ≤ G ∧ G ≤ 255) (br : 0 ≤ B ∧ B ≤ 255) : TslA R G B (mx R G B) (mn R G B) := by
  obtain ⟨m1, m2, m3, m4, m5, m6, m7, m8⟩ := mx_mn R G B
  have h0 : 0 ≤ mx R G B ∧ mx R G B ≤ 255 := by omega
  have l0 : 0 ≤ mn R G B ∧ mn R G B ≤ 255 := by omega
  have T := tsl_ok (mx R G B) (mn R G B) l0.1 (by omega) h0.2
  refine ⟨(over_ok R rr.1 rr.2).1, (over_ok G gr.1 gr.2).1, (over_ok B br.1 br.2).1, (cw_near R rr.1 rr.2).1, (cw_near G gr.1 gr.2).1, (cw_near B br.1 br.2).1, (cw_near _ h0.1 h0.2).1, (cw_near _ l0.1 l0.2).1, T.fd, T.fs, T.fl, ?_, ?_, ?_⟩
  · rw [feq T.fd fin0, val0, Bool.eq_iff_iff, decide_eq_true_iff, beq_iff_eq, T.d0]
    exact ⟨fun h => h.symm, fun h => h.symm⟩
  · rw [fmax_cw _ _ rr.1 rr.2 gr.1 gr.2, fmax_cw _ _ (by omega) (by omega) br.1 br.2]; rfl
  · rw [fmin_cw _ _ rr.1 rr.2 gr.1 gr.2, fmin_cw _ _ (by omega) (by omega) br.1 br.2]; rfl

/-- .. behind the test on grey -/
structure TslB (R G B H L : Int) : Prop where
  f2 : Fnt (fmul 4611686018427387904 (lW H L))
  ft : Fnt (tW H L)
  lt : tW H L < 18446744073709551616
  fa : Fnt (tW H L % 9223372036854775808)
  fz : Fnt (sizeW (tW H L))
  fq : Fnt (qW H L)
  nq : val (qW H L) ≠ 0
  fr : Fnt (qR H L)
  nr : val (qR H L) ≠ 0
  fe : Fnt (fdiv (dW H L) (qW H L))
  fg : Fnt (fdiv (dW H L) (qR H L))
  nd : val (dW H L) ≠ 0
  s1 : Fnt (fsub (cw G) (cw B))
  s2 : Fnt (fsub (cw B) (cw R))
  s3 : Fnt (fsub (cw R) (cw G))
  a1 : Fnt (aW G B H L)
  a2 : Fnt (aW B R H L)
  a3 : Fnt (aW R G H L)
  fh : Fnt (hueW R G B)
  f6 : Fnt (fmul 4633641066610819072 (hueW R G B))
  bR : (FloatKind.f64.format.order (cw H) (cw R) == some .eq) = (H == R)
  bG : (FloatKind.f64.format.order (cw H) (cw G) == some .eq) = (H == G)
  bN : (FloatKind.f64.format.order (aW G B H L) 0 == some .lt) = decide (val (aW G B H L) < 0)
  hue : (H == R) = true ∧ decide (val (aW G B H L) < 0) = true ∧ hueW R G B = fadd (aW G B H L) 4618441417868443648
    ∨ (H == R) = true ∧ decide (val (aW G B H L) < 0) = false ∧ hueW R G B = aW G B H L
    ∨ (H == R) = false ∧ (H == G) = true ∧ hueW R G B = fadd (aW B R H L) 4611686018427387904
    ∨ (H == R) = false ∧ (H == G) = false ∧ hueW R G B = fadd (aW R G H L) 4616189618054758400

theorem tslB (R G B : Int) (rr : 0 ≤ R ∧ R ≤ 255) (gr : 0 ≤ G ∧ G ≤ 255) (br : 0 ≤ B ∧ B ≤ 255) (lt : mn R G B < mx R G B) : TslB R G B (mx R G B) (mn R G B) := by
  obtain ⟨m1, m2, m3, m4, m5, m6, m7, m8⟩ := mx_mn R G B
  have h0 : 0 ≤ mx R G B ∧ mx R G B ≤ 255 := by omega
  have l0 : 0 ≤ mn R G B ∧ mn R G B ≤ 255 := by omega
  have T := tsl_ok (mx R G B) (mn R G B) l0.1 (by omega) h0.2
  have Q := q_ok (mx R G B) (mn R G B) l0.1 lt h0.2
  obtain ⟨s1, nd, a1, _⟩ := a_ok G B _ _ l0.1 lt h0.2 m2 m5 m3 m6
  obtain ⟨s2, _, a2, _⟩ := a_ok B R _ _ l0.1 lt h0.2 m3 m6 m1 m4
  obtain ⟨s3, _, a3, _⟩ := a_ok R G _ _ l0.1 lt h0.2 m1 m4 m2 m5
  obtain ⟨fh, _, _, f6, _, _⟩ := hue_ok R G B rr gr br lt
  have cH := (cw_near _ h0.1 h0.2).1
  refine ⟨T.f2, T.ft, fsub_lt T.f2 fin1, Q.fa, Q.fz, Q.sv.l, Q.ne, Q.sv.r, Q.ne', Q.sd.l, Q.sd.r, nd, s1, s2, s3, a1, a2, a3, fh, f6, ?_, ?_, ?_, ?_⟩
  · rw [feq cH (cw_near R rr.1 rr.2).1, Bool.eq_iff_iff, decide_eq_true_iff, beq_iff_eq, cw_eq_iff _ _ h0.1 h0.2 rr.1 rr.2]
  · rw [feq cH (cw_near G gr.1 gr.2).1, Bool.eq_iff_iff, decide_eq_true_iff, beq_iff_eq, cw_eq_iff _ _ h0.1 h0.2 gr.1 gr.2]
  · rw [flt a1 fin0, val0]
  · by_cases c : mx R G B = R
    · by_cases n : val (aW G B (mx R G B) (mn R G B)) < 0
      · exact Or.inl ⟨by rw [beq_iff_eq]; exact c, by rw [decide_eq_true_iff]; exact n, by unfold hueW; rw [if_pos c, if_pos n]⟩
      · exact Or.inr (Or.inl ⟨by rw [beq_iff_eq]; exact c, by rw [decide_eq_false_iff_not]; exact n, by unfold hueW; rw [if_pos c, if_neg n]⟩)
    · by_cases n : mx R G B = G
      · exact Or.inr (Or.inr (Or.inl ⟨by rw [beq_eq_false_iff_ne]; exact c, by rw [beq_iff_eq]; exact n, by unfold hueW; rw [if_neg c, if_pos n]⟩))
      · exact Or.inr (Or.inr (Or.inr ⟨by rw [beq_eq_false_iff_ne]; exact c, by rw [beq_eq_false_iff_ne]; exact n, by unfold hueW; rw [if_neg c, if_neg n]⟩))

set_option maxHeartbeats 8000000 in
set_option maxRecDepth 100000 in
theorem tint_ToHSL (c : Int) : Gives 15 #[.int .i32 c] (.tuple #[.float .f64 (hueC c), .float .f64 (satC c), .float .f64 (litC c)]) := by
  intro w
  obtain ⟨rr, gr, br⟩ := ch_range c
  by_cases h : hasC c = true
  · have HH : Hid (hueC c = (if flat c = false then fmul 4633641066610819072 (hueW (chR c) (chG c) (chB c)) else 0) ∧ satC c = (if flat c = false then fminW (fdiv (dW (mx (chR c) (chG c) (chB c)) (mn (chR c) (chG c) (chB c))) (qW (mx (chR c) (chG c) (chB c)) (mn (chR c) (chG c) (chB c)))) 4607182418800017408 else 0) ∧ litC c = lW (mx (chR c) (chG c) (chB c)) (mn (chR c) (chG c) (chB c))) := by
      unfold Hid hueC satC litC; simp [h]
    have flatE : flat c = (mn (chR c) (chG c) (chB c) == mx (chR c) (chG c) (chB c)) := rfl
    have A := tslA _ _ _ rr gr br
    have Bf := tslB _ _ _ rr gr br
    have lh : mn (chR c) (chG c) (chB c) ≤ mx (chR c) (chG c) (chB c) := by have := mx_mn (chR c) (chG c) (chB c); omega
    have RG := tint_RGB c
    rw [h] at RG
    have RG := Lib.hid RG
    have eR : ∀ n, fdiv (floatOfInt .f64 n) 4643176031446892544 = cw n := fun _ => rfl
    have f255 := fin255
    have n255 := ne255
    have f2 := fin2
    have n2 : val 4611686018427387904 ≠ 0 := by rw [val2]; decide
    have f1 := fin1
    have f6 := fin6
    have f60 := fin60
    have f4 := fin4
    generalize mx (chR c) (chG c) (chB c) = H at *
    generalize mn (chR c) (chG c) (chB c) = L at *
    obtain ⟨a1, a2, a3, a4, a5, a6, a7, a8, a9, a10, a11, a12, a13, a14⟩ := A
    have eD : fsub (cw H) (cw L) = dW H L := rfl
    have eL : fdiv (fadd (cw H) (cw L)) 4611686018427387904 = lW H L := rfl
    obtain ⟨r0, r1⟩ := rr; obtain ⟨g0, g1⟩ := gr; obtain ⟨b0, b1⟩ := br
    clear h
    by_cases fl : (L == H) = true
    · rw [fl] at a12
      have HH2 : Hid (hueC c = 0 ∧ satC c = 0 ∧ litC c = lW H L) := by
        obtain ⟨x, y, z⟩ := HH.out
        rw [flatE, fl] at x y
        exact ⟨x, y, z⟩
      clear HH fl flatE Bf lh
      go_enter Tryd.func15, Tryd.ntmps15
      go_wp2_with fail
      refine (RG.out _).mono ?_; rintro e w1 ⟨rfl, hb1⟩
      obtain ⟨hcl1, hfz1, hz1⟩ := bcell hb1
      go_wp2_with fail
      go_quiet (fail)
      go_wp2_with fail
      refine bodyPost_ret (v := .tuple #[.float .f64 0, .float .f64 0, .float .f64 (lW H L)]) (by simp [results, Tryd.results15, go_sem]) rfl ⟨by rw [HH2.out.1, HH2.out.2.1, HH2.out.2.2], ?_⟩
      repeat (first | exact hb1 | refine below_drewN ?_ _ | refine Below.alloc ?_ (by go_size) _ | refine Below.setCell ?_ (by go_size) _)
    · have fl' : (L == H) = false := by simpa using fl
      have lt : L < H := by
        have : L ≠ H := by simpa using fl
        omega
      rw [fl'] at a12
      have HH2 : Hid (hueC c = fmul 4633641066610819072 (hueW (chR c) (chG c) (chB c)) ∧ satC c = fminW (fdiv (dW H L) (qW H L)) 4607182418800017408 ∧ litC c = lW H L) := by
        obtain ⟨x, y, z⟩ := HH.out
        rw [flatE, fl'] at x y
        exact ⟨x, y, z⟩
      obtain ⟨b1', b2', b3', b4', b5', b6', b7', b8', b9', b10, b11, b12, b13, b14, b15, b16, b17, b18, b19, b20, b21, b22, b23, hue⟩ := Bf lt
      have CA := Lib.hid (math_Abs (tW H L) b3')
      have eT : fsub (fmul 4611686018427387904 (lW H L)) 4607182418800017408 = tW H L := rfl
      have eQ : fsub 4607182418800017408 (tW H L % 9223372036854775808) = qW H L := rfl
      have e1 : fdiv (fsub (cw (chG c)) (cw (chB c))) (dW H L) = aW (chG c) (chB c) H L := rfl
      have e2 : fdiv (fsub (cw (chB c)) (cw (chR c))) (dW H L) = aW (chB c) (chR c) H L := rfl
      have e3 : fdiv (fsub (cw (chR c)) (cw (chG c))) (dW H L) = aW (chR c) (chG c) H L := rfl
      have om : (Ieee.double.order (fdiv (dW H L) (qW H L)) 4607182418800017408).isSome = true := order_some b10 fin1
      clear HH fl fl' flatE Bf lh lt b3' b5' b8' b9' b11
      rcases hue with ⟨h1, h2, h3⟩ | ⟨h1, h2, h3⟩ | ⟨h1, h2, h3⟩ | ⟨h1, h2, h3⟩
      all_goals
        rw [h1] at b21
        try rw [h2] at b23
        try rw [h2] at b22
        rw [h3] at HH2 b19 b20
        clear h1 h2 h3
        go_enter Tryd.func15, Tryd.ntmps15
        go_wp2_with fail
        refine (RG.out _).mono ?_; rintro e w1 ⟨rfl, hb1⟩
        obtain ⟨hcl1, hfz1, hz1⟩ := bcell hb1
        go_wp2_with fail
        go_quiet (fail)
        go_wp2_with (go_at_call 49; refine (CA.out _).mono ?_; rintro e w' ⟨rfl, rfl⟩)
        refine bodyPost_ret (v := .tuple #[.float .f64 (hueC c), .float .f64 (satC c), .float .f64 (litC c)]) (by rw [HH2.out.1, HH2.out.2.1, HH2.out.2.2]; simp [results, Tryd.results15, go_sem]) rfl ⟨rfl, ?_⟩
        repeat (first | exact hb1 | refine below_drewN ?_ _ | refine Below.alloc ?_ (by go_size) _ | refine Below.setCell ?_ (by go_size) _)
  · have h' : hasC c = false := by simpa using h
    have H : Hid (hueC c = 0 ∧ satC c = 0 ∧ litC c = 0) := by unfold Hid hueC satC litC; simp [h']
    clear h
    go_enter Tryd.func15, Tryd.ntmps15
    go_wp2_with fail
    refine (tint_RGB _ _).mono ?_; rw [h']; rintro e w1 ⟨rfl, hb1⟩
    have hz1 := hb1.size
    go_wp2_with fail
    refine bodyPost_ret (v := .tuple #[.float .f64 0, .float .f64 0, .float .f64 0]) (by simp [results, Tryd.results15, go_sem]) rfl ⟨by rw [H.out.1, H.out.2.1, H.out.2.2], hb1.alloc hz1 _⟩
end Go.Proofs.YtpbpkdhdjdaiiaaDoor
