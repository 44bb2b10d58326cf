/- Angle, strength and lightness of a colour: the walk of the reference's ToHSL. -/
import Derived.Test.YtpbpkdhdjdaiiaaDoorTslW
import Derived.Test.YtpbpkdhdjdaiiaaDoorColC
import Derived.Deep.DeepCutAuto
namespace Go.Proofs.YtpbpkdhdjdaiiaaDoor
open Go.RowKit Flt

theorem tsl_size (x : Nat) (f : Fnt x) : Tells 50 #[.float .f64 x] (.float .f64 (sizeW x)) := by
  intro w
  have o := order_lt f fin0
  rw [val0] at o
  by_cases c : val x < 0
  · have g : (FloatKind.f64.format.order x 0 == some .lt) = true := o.2 c
    have H : Hid (sizeW x = negW x) := by unfold Hid sizeW; rw [if_pos c]
    clear o c
    go_enter Tryd.func50, Tryd.ntmps50
    go_wp2
    go_ret
    exact ⟨ret_float (by rw [H.out]), rfl⟩
  · have g : (FloatKind.f64.format.order x 0 == some .lt) = false := by
      rw [Bool.eq_false_iff]; exact fun h => c (o.1 h)
    have H : Hid (sizeW x = x) := by unfold Hid sizeW; rw [if_neg c]
    clear o c
    go_enter Tryd.func50, Tryd.ntmps50
    go_wp2
    go_ret
    exact ⟨ret_float (by rw [H.out]), rfl⟩

def capR (x : Nat) : Nat := if 1 < val x then 4607182418800017408 else x
def satR (c : Int) : Nat := if hasC c = true ∧ flat c = false then capR (fdiv (dW (mx (chR c) (chG c) (chB c)) (mn (chR c) (chG c) (chB c))) (qR (mx (chR c) (chG c) (chB c)) (mn (chR c) (chG c) (chB c)))) else 0

theorem sat_same (c : Int) : Fnt (satC c) ∧ Fnt (satR c) ∧ val (satC c) = val (satR c) := by
  obtain ⟨rr, gr, br⟩ := ch_range c
  obtain ⟨m1, m2, m3, m4, m5, m6, m7, m8⟩ := mx_mn (chR c) (chG c) (chB c)
  unfold satC satR
  by_cases k : hasC c = true ∧ flat c = false
  · rw [if_pos k, if_pos k]
    have lt : mn (chR c) (chG c) (chB c) < mx (chR c) (chG c) (chB c) := by
      have f := k.2
      unfold flat at f
      rw [beq_eq_false_iff_ne] at f
      omega
    have Q := (q_ok _ _ (by omega) lt (by omega)).sd
    generalize fdiv (dW (mx (chR c) (chG c) (chB c)) (mn (chR c) (chG c) (chB c))) (qW (mx (chR c) (chG c) (chB c)) (mn (chR c) (chG c) (chB c))) = x at *
    generalize fdiv (dW (mx (chR c) (chG c) (chB c)) (mn (chR c) (chG c) (chB c))) (qR (mx (chR c) (chG c) (chB c)) (mn (chR c) (chG c) (chB c))) = y at *
    obtain ⟨a, b, d, e⟩ := fmin_val Q.l fin1
    have q := Q.e
    rw [val1] at e
    unfold capR
    by_cases z : 1 < val y
    · rw [if_pos z]
      refine ⟨a, fin1, ?_⟩
      rw [val1]
      rcases b with b | b
      · rw [b] at e; exact absurd z (by grind)
      · rw [b, val1]
    · rw [if_neg z]
      refine ⟨a, Q.r, ?_⟩
      rcases b with b | b
      · rw [b, q]
      · rw [b, val1] at d; rw [b, val1]; grind
  · rw [if_neg k, if_neg k]
    exact ⟨fin0, fin0, rfl⟩

set_option maxHeartbeats 1000000 in
set_option maxRecDepth 100000 in
theorem ref_ToHSL (c : Int) (hl : -2147483648 ≤ c) (hh : c ≤ 2147483647) : Gives 16 #[.int .i32 c] (.tuple #[.float .f64 (hueC c), .float .f64 (satR c), .float .f64 (litC c)]) := by
  intro w
  obtain ⟨rr, gr, br⟩ := ch_range c
  by_cases h : hasC c = true
  · have HH : Hid (hueC c = (if flat c = false then fmul 4633641066610819072 (hueW (chR c) (chG c) (chB c)) else 0) ∧ satR c = (if flat c = false then capR (fdiv (dW (mx (chR c) (chG c) (chB c)) (mn (chR c) (chG c) (chB c))) (qR (mx (chR c) (chG c) (chB c)) (mn (chR c) (chG c) (chB c)))) else 0) ∧ litC c = lW (mx (chR c) (chG c) (chB c)) (mn (chR c) (chG c) (chB c))) := by
      unfold Hid hueC satR litC; simp [h]
    have flatE : flat c = (mn (chR c) (chG c) (chB c) == mx (chR c) (chG c) (chB c)) := rfl
    have A := tslA _ _ _ rr gr br
    have Bf := tslB _ _ _ rr gr br
    have lh : mn (chR c) (chG c) (chB c) ≤ mx (chR c) (chG c) (chB c) := by have := mx_mn (chR c) (chG c) (chB c); omega
    have RG := ref_RGB c hl hh
    rw [h] at RG
    have RG := Lib.hid RG
    have eR : ∀ n, fdiv (floatOfInt .f64 n) 4643176031446892544 = cw n := fun _ => rfl
    have f255 := fin255
    have n255 := ne255
    have f2 := fin2
    have n2 : val 4611686018427387904 ≠ 0 := by rw [val2]; decide
    have f1 := fin1
    have f6 := fin6
    have f60 := fin60
    have f4 := fin4
    have MX : mx (chR c) (chG c) (chB c) = max (max (chR c) (chG c)) (chB c) := rfl
    have MN : mn (chR c) (chG c) (chB c) = min (min (chR c) (chG c)) (chB c) := rfl
    have CG : ∀ a b : Int, (0 ≤ a ∧ a ≤ 255) → (0 ≤ b ∧ b ≤ 255) → (FloatKind.f64.format.order (cw a) (cw b) == some .gt) = decide (b < a) := fun a b ha hb => by
      rw [fgt (cw_near a ha.1 ha.2).1 (cw_near b hb.1 hb.2).1, Bool.eq_iff_iff, decide_eq_true_iff, decide_eq_true_iff, cw_lt_iff _ _ hb.1 hb.2 ha.1 ha.2]
    have CL : ∀ a b : Int, (0 ≤ a ∧ a ≤ 255) → (0 ≤ b ∧ b ≤ 255) → (FloatKind.f64.format.order (cw a) (cw b) == some .lt) = decide (a < b) := fun a b ha hb => by
      rw [flt (cw_near a ha.1 ha.2).1 (cw_near b hb.1 hb.2).1, Bool.eq_iff_iff, decide_eq_true_iff, decide_eq_true_iff, cw_lt_iff _ _ ha.1 ha.2 hb.1 hb.2]
    have CM := fun a (ha : 0 ≤ a ∧ a ≤ 255) => (cw_near a ha.1 ha.2).1
    have CGH := Lib.hid CG; have CLH := Lib.hid CL
    clear CG CL
    have M1 : 0 ≤ max (chR c) (chG c) ∧ max (chR c) (chG c) ≤ 255 := by omega
    have M2 : 0 ≤ min (chR c) (chG c) ∧ min (chR c) (chG c) ≤ 255 := by omega
    have fM1 := CM _ M1
    have fM2 := CM _ M2
    have MXH := Lib.hid MX; have MNH := Lib.hid MN
    clear MX MN CM
    generalize mx (chR c) (chG c) (chB c) = H at *
    generalize mn (chR c) (chG c) (chB c) = L at *
    obtain ⟨a1, a2, a3, a4, a5, a6, a7, a8, a9, a10, a11, a12, _, _⟩ := A
    have eD : fsub (cw H) (cw L) = dW H L := rfl
    have eL : fdiv (fadd (cw H) (cw L)) 4611686018427387904 = lW H L := rfl
    have RRH := Lib.hid rr; have GRH := Lib.hid gr; have BRH := Lib.hid br; have M1H := Lib.hid M1; have M2H := Lib.hid M2
    obtain ⟨r0, r1⟩ := rr; obtain ⟨g0, g1⟩ := gr; obtain ⟨b0, b1⟩ := br
    have A12 := Lib.hid a12; have BF := Lib.hid Bf; have FE := Lib.hid flatE; have LH := Lib.hid lh
    clear h a12 Bf flatE lh M1 M2
    go_enter Tryd.func16, Tryd.ntmps16
    go_wp2_with fail
    refine (RG.out _).mono ?_; rintro e w1 ⟨rfl, hb1⟩
    obtain ⟨hcl1, hfz1, hz1⟩ := bcell hb1
    go_upto_if 40 with fail
    go_cut [10] (fun s10 wx => s10 = .float .f64 (cw (max (chR c) (chG c))) ∧ Below w.heap.size w wx)
    case first =>
      have k := CGH.out (chG c) (chR c) GRH.out RRH.out
      by_cases x : chR c < chG c
      · have e : Hid (max (chR c) (chG c) = chG c) := Lib.hid (by omega)
        rw [decide_eq_true x] at k
        clear x
        rw [k]
        go_wp2_with fail
        go_meet
        exact ⟨by rw [e.out], by repeat (first | exact hb1 | refine below_drewN ?_ _ | refine Below.alloc ?_ (by go_size) _ | refine Below.setCell ?_ (by go_size) _)⟩
      · have e : Hid (max (chR c) (chG c) = chR c) := Lib.hid (by omega)
        rw [decide_eq_false x] at k
        clear x
        rw [k]
        go_wp2_with fail
        go_meet
        exact ⟨by rw [e.out], by repeat (first | exact hb1 | refine below_drewN ?_ _ | refine Below.alloc ?_ (by go_size) _ | refine Below.setCell ?_ (by go_size) _)⟩
    case rest =>
      obtain ⟨rfl, hbw⟩ := hcut
      go_upto_if 44 with fail
      go_cut [10] (fun s10 wx => s10 = .float .f64 (cw H) ∧ Below w.heap.size w wx)
      case first =>
        have k := CGH.out (chB c) _ BRH.out M1H.out
        by_cases x : max (chR c) (chG c) < chB c
        · have e : Hid (H = chB c) := Lib.hid (by have := MXH.out; omega)
          rw [decide_eq_true x] at k
          clear x
          rw [k]
          go_wp2_with fail
          go_meet
          exact ⟨by rw [e.out], hbw⟩
        · have e : Hid (H = max (chR c) (chG c)) := Lib.hid (by have := MXH.out; omega)
          rw [decide_eq_false x] at k
          clear x
          rw [k]
          go_wp2_with fail
          go_meet
          exact ⟨by rw [e.out], hbw⟩
      case rest =>
        obtain ⟨rfl, hbw⟩ := hcut
        go_upto_if 48 with fail
        go_cut [11] (fun s11 wx => s11 = .float .f64 (cw (min (chR c) (chG c))) ∧ Below w.heap.size w wx)
        case first =>
          have k := CLH.out (chG c) (chR c) GRH.out RRH.out
          by_cases x : chG c < chR c
          · have e : Hid (min (chR c) (chG c) = chG c) := Lib.hid (by omega)
            rw [decide_eq_true x] at k
            clear x
            rw [k]
            go_wp2_with fail
            go_meet
            exact ⟨by rw [e.out], hbw⟩
          · have e : Hid (min (chR c) (chG c) = chR c) := Lib.hid (by omega)
            rw [decide_eq_false x] at k
            clear x
            rw [k]
            go_wp2_with fail
            go_meet
            exact ⟨by rw [e.out], hbw⟩
        case rest =>
          obtain ⟨rfl, hbw⟩ := hcut
          go_upto_if 52 with fail
          go_cut [11] (fun s11 wx => s11 = .float .f64 (cw L) ∧ Below w.heap.size w wx)
          case first =>
            have k := CLH.out (chB c) _ BRH.out M2H.out
            by_cases x : chB c < min (chR c) (chG c)
            · have e : Hid (L = chB c) := Lib.hid (by have := MNH.out; omega)
              rw [decide_eq_true x] at k
              clear x
              rw [k]
              go_wp2_with fail
              go_meet
              exact ⟨by rw [e.out], hbw⟩
            · have e : Hid (L = min (chR c) (chG c)) := Lib.hid (by have := MNH.out; omega)
              rw [decide_eq_false x] at k
              clear x
              rw [k]
              go_wp2_with fail
              go_meet
              exact ⟨by rw [e.out], hbw⟩
          case rest =>
            obtain ⟨rfl, hbw⟩ := hcut
            have a12 := A12.out
            by_cases fl : (L == H) = true
            · rw [fl] at a12
              have HH2 : Hid (hueC c = 0 ∧ satR c = 0 ∧ litC c = lW H L) := by
                obtain ⟨x, y, z⟩ := HH.out
                rw [FE.out, fl] at x y
                exact ⟨x, y, z⟩
              clear fl
              go_wp2_with fail
              refine bodyPost_ret (v := .tuple #[.float .f64 0, .float .f64 0, .float .f64 (lW H L)]) (by simp [results, Tryd.results16, go_sem]) rfl ⟨by rw [HH2.out.1, HH2.out.2.1, HH2.out.2.2], hbw⟩
            · have fl' : (L == H) = false := by simpa using fl
              have lt : L < H := by
                have : L ≠ H := by simpa using fl
                have := LH.out
                omega
              rw [fl'] at a12
              have HH2 : Hid (hueC c = fmul 4633641066610819072 (hueW (chR c) (chG c) (chB c)) ∧ satR c = capR (fdiv (dW H L) (qR H L)) ∧ litC c = lW H L) := by
                obtain ⟨x, y, z⟩ := HH.out
                rw [FE.out, fl'] at x y
                exact ⟨x, y, z⟩
              obtain ⟨b1', b2', b3', b4', b5', b6', b7', b8', b9', b10, b11, b12, b13, b14, b15, b16, b17, b18, b19, b20, b21, b22, b23, hue⟩ := BF.out lt
              have CS := Lib.hid (tsl_size (tW H L) b2')
              have HUE := Lib.hid hue
              have eT : fsub (fmul 4611686018427387904 (lW H L)) 4607182418800017408 = tW H L := rfl
              have eQ : fsub 4607182418800017408 (sizeW (tW H L)) = qR H L := rfl
              have e1 : fdiv (fsub (cw (chG c)) (cw (chB c))) (dW H L) = aW (chG c) (chB c) H L := rfl
              have e2 : fdiv (fsub (cw (chB c)) (cw (chR c))) (dW H L) = aW (chB c) (chR c) H L := rfl
              have e3 : fdiv (fsub (cw (chR c)) (cw (chG c))) (dW H L) = aW (chR c) (chG c) H L := rfl
              have om := fgt b11 fin1
              rw [val1] at om
              have OM := Lib.hid om
              clear fl fl' lt b3' b4' b6' b7' hue om
              go_upto_if 73 with (go_at_call 50; refine (CS.out _).mono ?_; rintro e w' ⟨rfl, rfl⟩)
              go_cut [15] (fun s15 wx => s15 = .float .f64 (capR (fdiv (dW H L) (qR H L))) ∧ Below w.heap.size w wx)
              case first =>
                have k := OM.out
                by_cases x : 1 < val (fdiv (dW H L) (qR H L))
                · have e : Hid (capR (fdiv (dW H L) (qR H L)) = 4607182418800017408) := Lib.hid (by unfold capR; rw [if_pos x])
                  rw [decide_eq_true x] at k
                  clear x
                  rw [k]
                  go_wp2_with fail
                  go_meet
                  exact ⟨by rw [e.out], hbw⟩
                · have e : Hid (capR (fdiv (dW H L) (qR H L)) = fdiv (dW H L) (qR H L)) := Lib.hid (by unfold capR; rw [if_neg x])
                  rw [decide_eq_false x] at k
                  clear x
                  rw [k]
                  go_wp2_with fail
                  go_meet
                  exact ⟨by rw [e.out], hbw⟩
              case rest =>
                obtain ⟨rfl, hbw⟩ := hcut
                rcases HUE.out with ⟨h1, h2, h3⟩ | ⟨h1, h2, h3⟩ | ⟨h1, h2, h3⟩ | ⟨h1, h2, h3⟩
                all_goals
                  rw [h1] at b21
                  try rw [h2] at b23
                  try rw [h2] at b22
                  rw [h3] at HH2 b19 b20
                  clear h1 h2 h3
                  go_wp2_with fail
                  refine bodyPost_ret (v := .tuple #[.float .f64 (hueC c), .float .f64 (satR c), .float .f64 (litC c)]) (by rw [HH2.out.1, HH2.out.2.1, HH2.out.2.2]; simp [results, Tryd.results16, go_sem]) rfl ⟨rfl, hbw⟩
  · have h' : hasC c = false := by simpa using h
    have H : Hid (hueC c = 0 ∧ satR c = 0 ∧ litC c = 0) := by unfold Hid hueC satR litC; simp [h']
    clear h
    go_enter Tryd.func16, Tryd.ntmps16
    go_wp2_with fail
    refine (ref_RGB _ hl hh _).mono ?_; rw [h']; rintro e w1 ⟨rfl, hb1⟩
    have hz1 := hb1.size
    go_wp2_with fail
    refine bodyPost_ret (v := .tuple #[.float .f64 0, .float .f64 0, .float .f64 0]) (by simp [results, Tryd.results16, go_sem]) rfl ⟨by rw [H.out.1, H.out.2.1, H.out.2.2], hb1.alloc hz1 _⟩
end Go.Proofs.YtpbpkdhdjdaiiaaDoor
