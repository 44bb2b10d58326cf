/- What lies below tapes (kept of earlier texts: VwPc). -/
import Derived.Test.YtmaofighbpnbiaaGreatDoorTaFH
set_option linter.unusedVariables false
set_option linter.unusedSimpArgs false
namespace Go.Proofs.YtmaofighbpnbiaaGreatDoor
section
open Go Go.RowKit Go.Sort
section
variable {w0 : World} {F0 : List Nat} {tb : Nat} {t t' : Trm} {W W' : World} {L : Lay}
theorem zcO (t : Trm) (n : Int) (A M K : Nat) (np : 0 < n) (eA : t.cur.y * t.w + t.cur.x = A) (eZ : (t.cur.y + 1) * t.w = (A : Int) + M) (eK : min n (M : Int) = K) (u : Trm) (eu : u = zh (zh t t.cur.x t.cur.y) (t.w - K) t.cur.y) (ul : u.cells.length = t.cells.length) (hz : A + M <= t.cells.length) (hk : K <= M) :
  zT t n = zx (zo (zk u (A + K) ((u.cells.drop A).take (M - K))) A K) A M := by
 subst eu
 have e1 : ((A : Int) + M).toNat = A + M := by omega
 rw [<- VJ, <- VH _ _ _ _ (by omega) hk]
 unfold zT
 simp only
 rw [eA, eZ, e1]
 simp only [Int.toNat_natCast, Nat.add_sub_cancel_left]
 rw [eK, if_pos np]
 simp only [Int.toNat_natCast]
theorem zcP (t : Trm) (n : Int) (A M K : Nat) (np : ¬ 0 < n) (eA : t.cur.y * t.w + t.cur.x = A) (eZ : (t.cur.y + 1) * t.w = (A : Int) + M) (eK : min (-n) (M : Int) = K) (u : Trm) (eu : u = zh (zh t t.cur.x t.cur.y) (t.cur.x + K) t.cur.y) (ul : u.cells.length = t.cells.length) (hz : A + M <= t.cells.length) (hk : K <= M) :
  zT t n = zx (zo (zk u A ((u.cells.drop (A + K)).take (M - K))) (A + M - K) K) A M := by
 subst eu
 have e1 : ((A : Int) + M).toNat = A + M := by omega
 rw [<- VI, <- VG _ _ _ _ (by omega) hk]
 unfold zT
 simp only
 rw [eA, eZ, e1]
 simp only [Int.toNat_natCast, Nat.add_sub_cancel_left]
 rw [eK, if_neg np]
 simp only [Int.toNat_natCast]
set_option maxHeartbeats 8000000 in
set_option maxRecDepth 100000 in
theorem zcQ (h : St w0 F0 tb t W) (f : Fine t) (p : zm t) (n : Int) (np : 0 < n) (n0 : -10000 <= n) (n1 : n <= 10000) : Calls Tryz.prog 99 #[.pointer (some ⟨tb, 0, none⟩), .int .i64 n] W (Vd w0 F0 tb (zT t n)) := by
 have w1 := f.w1
 have w0' := p.1
 have hh := f.h1
 have cl := f.cl
 have wl := f.wl
 have ar := f.ar
 have x0 := f.x0
 have y0 := f.y0
 have xw : t.cur.x < t.w := by have := f.cx; omega
 have yh : t.cur.y < t.h := by have := f.cy; have := p.2; omega
 have r := f.row y0 yh
 have e1 : (t.cur.y + 1) * t.w = t.cur.y * t.w + t.w := by rw [Int.add_mul, Int.one_mul]
 obtain ⟨A, eA⟩ : ∃ A : Nat, t.cur.y * t.w + t.cur.x = (A : Int) := ⟨(t.cur.y * t.w + t.cur.x).toNat, by omega⟩
 obtain ⟨M, eM⟩ : ∃ M : Nat, t.w - t.cur.x = (M : Int) := ⟨(t.w - t.cur.x).toNat, by omega⟩
 have eZ : (t.cur.y + 1) * t.w = (A : Int) + M := by omega
 obtain ⟨K, eK⟩ : ∃ K : Nat, min n (M : Int) = (K : Int) := ⟨(min n (M : Int)).toNat, by omega⟩
 have hz : A + M <= t.cells.length := by omega
 have ha : 0 < M := by omega
 have hk : K <= M := by omega
 have c1 := qD t t.cur.x t.cur.y
 have c2 := c1.trans (qD (zh t t.cur.x t.cur.y) (t.w - (K : Int)) t.cur.y)
 have S1 : Hid (∀ v W', St w0 F0 tb t W' -> W'.cell? ⟨tb, 2, none⟩ = some v -> Calls Tryz.prog 132 #[.pointer (some ⟨tb, 0, none⟩), .int .i64 t.cur.x, .int .i64 t.cur.y] W' (Vp w0 F0 tb (zh t t.cur.x t.cur.y) v)) := zdX (fun v W' hs hv => vU hs f _ _ y0 yh v hv)
 have S2 : Hid (∀ v W', St w0 F0 tb (zh t t.cur.x t.cur.y) W' -> W'.cell? ⟨tb, 2, none⟩ = some v -> Calls Tryz.prog 132 #[.pointer (some ⟨tb, 0, none⟩), .int .i64 (t.w - (K : Int)), .int .i64 t.cur.y] W' (Vp w0 F0 tb (zh (zh t t.cur.x t.cur.y) (t.w - (K : Int)) t.cur.y) v)) := zdX (fun v W' hs hv => vU hs (f.cw c1) _ _ y0 (by rw [c1.h]; exact yh) v hv)
 have SE := zdX (zcO t n A M K np eA eZ eK _ rfl c2.cl hz hk)
 have C1 := zdX c1
 generalize hu : zh (zh t t.cur.x t.cur.y) (t.w - (K : Int)) t.cur.y = u at *
 have CP : Hid (Cw t (zk u (A + K) ((u.cells.drop A).take (M - K)))) := zdX (c2.trans (xO u _ _ (by have := c2.cl; rw [List.length_take, List.length_drop]; omega)))
 have U2 : Hid (Cw t (zo (zk u (A + K) ((u.cells.drop A).take (M - K))) A K)) := zdX (CP.out.trans (jL _ _ _))
 have FI : Hid (∀ W', St w0 F0 tb (zk u (A + K) ((u.cells.drop A).take (M - K))) W' -> Calls Tryz.prog 105 #[.pointer (some ⟨tb, 0, none⟩), .int .i64 ((A : Int)), .int .i64 (K : Int)] W' (Vd w0 F0 tb (zo (zk u (A + K) ((u.cells.drop A).take (M - K))) A K))) := zdX (fun W' hs => by
  have := kZ hs A K (by have := CP.out.cl; omega) (by have := CP.out.cl; omega) (by have := CP.out.cl; have := CP.out.wl; omega)
  exact this)
 have m0 := zdY (t.cur.y * t.w) (by omega)
 have m1 : IntKind.i64.wrap (t.cur.y * t.w + t.cur.x) = (A : Int) := by rw [eA]; exact zdY _ (by omega)
 have m2 : IntKind.i64.wrap ((t.cur.y + 1) * t.w) = (A : Int) + M := by rw [eZ]; exact zdY _ (by omega)
 have m3 := zdY (t.cur.y + 1) (by omega)
 have m5 := zdY (t.w - (K : Int)) (by omega)
 have m4 := zdY ((A : Int) + M - K) (by omega)
 have EK := zdX eK
 have EA := zdX eA
 have bl : t.cells.length <= 1048576 := by omega
 have hwl : t.wrt.length = t.cells.length := by omega
 have HWL := zdX hwl
 have BL := zdX bl
 have HZ := zdX hz
 have zb : (A : Int) + (M : Int) <= 1048576 := by omega
 have H1 := zdX h
 obtain ⟨L1, g, cap, B1, ec, hc, ho9, up9⟩ := h.rowC (by omega)
 clear ho9 up9
 obtain ⟨C, rfl⟩ : ∃ C, cap = A + C := ⟨cap - A, by omega⟩
 have kk0 := fun d os => (B1.regrown d os).c 0 _ rfl
 have kk3 := fun d os => (B1.regrown d os).c 3 _ rfl
 have kk4 := fun d os => (B1.regrown d os).c 4 _ rfl
 have kk2 : ∀ d os, (grow (redrawn W d) os).cell? ⟨tb, 2, none⟩ = some (.slice (some ⟨g, 0, none⟩) t.cells.length (A + C)) := fun d os => by rw [<- ec]; exact (B1.regrown d os).c 2 _ rfl
 have q1 : (M : Int) <= (C : Int) := by omega
 have q3 : 0 < C := by omega
 have q4 : (K : Int) <= (M : Int) := by omega
 have UL := zdX c2.cl
 have NP := zdX np
 clear h f p eA eZ eK B1 ec hwl bl cl wl ar hc hz r e1 eM hu c1 c2 xw yh hh
 go_enter Tryz.func99, Tryz.ntmps99
 go_wp2_with fail
 refine zg 35 (by kernel_rfl) (by kernel_rfl) ?_
 simp only [zd0, zd1, zd2, zd3]
 repeat (first | go_big_quiet_step (fail) | quiet_step (fail))
 refine wpQuiet_nil ?_
 intro _ hw'
 obtain ⟨⟨dq, osq⟩, hw''⟩ := hw'
 subst hw''
 have H1 := zdX (H1.out.below (below_regrown W dq osq))
 have k2 := zdX (kk2 dq osq)
 clear kk0 kk2 kk3 kk4
 generalize grow (redrawn W dq) osq = W1 at *
 go_wp2_with fail
 simp only [Nat.add_sub_cancel_left]
 obtain ⟨L1, B1⟩ := H1.out.bk
 dsimp only [trmV, setX, setY] at B1
 have k3 := fun d os => (B1.regrown d os).c 3 _ rfl
 have k4 := fun d os => (B1.regrown d os).c 4 _ rfl
 clear B1
 refine zg 11 (by kernel_rfl) (by kernel_rfl) ?_
 simp only [zd0, zd1, zd2, zd3]
 repeat (first | go_big_quiet_step (fail) | quiet_step (fail))
 refine wpQuiet_nil ?_
 intro _ hw'
 obtain ⟨⟨dq, osq⟩, hw''⟩ := hw'
 subst hw''
 have k2 := zdX (((below_regrown W1 dq osq).cell (p := ⟨tb, 2, none⟩) H1.out.lt).trans k2.out)
 have H1 := zdX (H1.out.below (below_regrown W1 dq osq))
 clear k3 k4
 generalize grow (redrawn W1 dq) osq = W2 at *
 have S1 := zdX (S1.out _ W2 H1.out k2.out)
 go_wp2_with fail
 refine S1.out.mono ?_; rintro e w3 ⟨⟨⟨v, rfl⟩, h3⟩, p3⟩
 have H3 := zdX h3
 have k2 := zdX p3
 clear S1 H1 h3 p3
 go_upto_region 4 with fail
 rw [EK.out]
 obtain ⟨L1, B1⟩ := H3.out.bk
 dsimp only [trmV, setX, setY] at B1
 have k0 := fun d os => (B1.regrown d os).c 0 _ rfl
 have k4 := fun d os => (B1.regrown d os).c 4 _ rfl
 clear B1
 simp only [C1.out.w, C1.out.cur] at k0 k4
 refine zg 13 (by kernel_rfl) (by kernel_rfl) ?_
 simp only [zd0, zd1, zd2, zd3]
 repeat (first | go_big_quiet_step (fail) | quiet_step (fail))
 refine wpQuiet_nil ?_
 intro _ hw'
 obtain ⟨⟨dq, osq⟩, hw''⟩ := hw'
 subst hw''
 have k2 := zdX (((below_regrown w3 dq osq).cell (p := ⟨tb, 2, none⟩) H3.out.lt).trans k2.out)
 have H3 := zdX (H3.out.below (below_regrown w3 dq osq))
 clear k0 k4 m5
 generalize grow (redrawn w3 dq) osq = w4 at *
 have S2 := zdX (S2.out _ w4 H3.out k2.out)
 go_wp2_with fail
 refine S2.out.mono ?_; rintro e w5 ⟨⟨⟨v, rfl⟩, h5⟩, p5⟩
 have H5 := zdX h5
 rw [<- UL.out] at p5
 have k2 := p5
 clear S2 H3 h5 p5
 by_cases CK : C = K
 ·have mk : M = K := by omega
  obtain ⟨v, V, RC, hv⟩ := H5.out.copyC (by have := HZ.out; have := UL.out; omega) k2 A A (M - K) (M - K) 0 M C (A * 5) ⟨g, A * 5, none⟩ (by have := HZ.out; have := UL.out; omega) (by have := HZ.out; have := UL.out; omega) (Nat.min_eq_right (by omega)) (by omega) (fun z => rfl)
  have hv : St w0 F0 tb (zk u (A + K) ((u.cells.drop A).take (M - K))) V := by
   have e0 : (u.cells.drop A).take (M - K) = [] := by rw [mk, Nat.sub_self, List.take_zero]
   rw [ZE u A _ e0 (by have := HZ.out; have := UL.out; omega)] at hv
   rw [ZE u (A + K) _ e0 (by have := HZ.out; have := UL.out; omega)]
   exact hv
  have H2 := zdX hv
  clear hv H5
  have CK := CK.symm
  subst CK
  have MK := zdX mk
  clear mk
  go_upto_region 6 with fail
  clear k2 RC
  obtain ⟨L1, B1⟩ := H2.out.bk
  dsimp only [trmV, setX, setY] at B1
  have k0 := fun d os => (B1.regrown d os).c 0 _ rfl
  have k3 := fun d os => (B1.regrown d os).c 3 _ rfl
  have k4 := fun d os => (B1.regrown d os).c 4 _ rfl
  clear B1
  simp only [CP.out.w, CP.out.cur] at k0 k3 k4
  refine zg 19 (by kernel_rfl) (by kernel_rfl) ?_
  simp only [zd0, zd1, zd2, zd3]
  repeat (first | go_big_quiet_step (fail) | quiet_step (fail))
  refine wpQuiet_nil ?_
  intro _ hw'
  obtain ⟨⟨dq, osq⟩, hw''⟩ := hw'
  subst hw''
  have H2 := zdX (H2.out.below (below_regrown V dq osq))
  clear k0 k3 k4
  generalize grow (redrawn V dq) osq = w6 at *
  have FI := zdX (FI.out w6 H2.out)
  go_wp2_with fail
  refine FI.out.mono ?_; rintro e w7 ⟨⟨vv, rfl⟩, h1⟩
  have H3 := zdX h1
  clear h1 FI H2
  go_wp2_with fail
  obtain ⟨L1, B1⟩ := H3.out.bk
  dsimp only [trmV, setX, setY] at B1
  have k0 := fun d os => (B1.regrown d os).c 0 _ rfl
  have k3 := fun d os => (B1.regrown d os).c 3 _ rfl
  have k4 := fun d os => (B1.regrown d os).c 4 _ rfl
  clear B1
  simp only [U2.out.w, U2.out.cur] at k0 k3 k4
  refine zg 17 (by kernel_rfl) (by kernel_rfl) ?_
  simp only [zd0, zd1, zd2, zd3]
  repeat (first | go_big_quiet_step (fail) | quiet_step (fail))
  refine wpQuiet_nil ?_
  intro _ hw'
  obtain ⟨⟨dq, osq⟩, hw''⟩ := hw'
  subst hw''
  have H3 := zdX (H3.out.below (below_regrown w7 dq osq))
  clear k0 k3 k4
  generalize grow (redrawn w7 dq) osq = w9 at *
  go_wp2_with fail
  clear q1 q3 q4
  have HS : Hid (St w0 F0 tb (zx (zo (zk u (A + K) ((u.cells.drop A).take (M - K))) A K) A 0) w9) := H3
  clear H3
  go_loopw [5] (fun i wr => ∃ k : Nat, k <= M /\ i = .int .i64 ((A : Int) + k) /\ Hid (St w0 F0 tb (zx (zo (zk u (A + K) ((u.cells.drop A).take (M - K))) A K) A k) wr)) (fun i _ => A + M - (intOf i).toNat)
  case atStart => exact ⟨0, Nat.zero_le _, by simp, HS⟩
  case round =>
   obtain ⟨k, hk2, rfl, hr⟩ := hrel
   clear HS
   obtain ⟨wq, hq⟩ : ∃ wq, wq = wr := ⟨_, rfl⟩
   rw [<- hq] at hr ⊢
   clear hq
   have WW := zdX ((U2.out.trans (js (zo (zk u (A + K) ((u.cells.drop A).take (M - K))) A K) A k)))
   by_cases lt : k < M
   ·have q6 : (A : Int) + k < (A : Int) + M := by omega
    go_wp2_with fail
    obtain ⟨L1, B1⟩ := hr.out.bk
    dsimp only [trmV, setX, setY] at B1
    have k0 := fun d os => (B1.regrown d os).c 0 _ rfl
    have k4 := fun d os => (B1.regrown d os).c 4 _ rfl
    clear B1
    simp only [WW.out.w, WW.out.cur] at k0 k4
    refine zg 13 (by kernel_rfl) (by kernel_rfl) ?_
    simp only [zd0, zd1, zd2, zd3]
    repeat (first | go_big_quiet_step (fail) | quiet_step (fail))
    refine wpQuiet_nil ?_
    intro _ hw'
    obtain ⟨⟨dq, osq⟩, hw''⟩ := hw'
    subst hw''
    have hr := zdX (hr.out.below (below_regrown wq dq osq))
    clear k0 k4
    generalize grow (redrawn wq dq) osq = w8 at *
    have bl := BL.out
    have hz := HZ.out
    have hwl := HWL.out
    have ul := U2.out.wl
    obtain ⟨L1, g1, cap1, B1, ec, hc1, ⟨v5, y5⟩, p5, h5⟩ := hr.out.markS (by omega)
    have k27 := B1.c 27 _ rfl
    rw [ec, ul] at k27
    have H5 := zdX h5
    have q0 : (0 : Int) <= (A : Int) + k := by omega
    have q5 : (A : Int) + k < (t.wrt.length : Int) := by omega
    have tn : ((A : Int) + k).toNat = A + k := by omega
    have wk := zdY ((A : Int) + k + 1) (by omega)
    clear B1 ec hc1 h5 ul bl hz hwl hr
    go_wp2_with fail
    go_roundw
    case rel => exact ⟨k + 1, by omega, by go_num, H5⟩
    case measure => simp [intOf]; omega
   ·have e9 : k = M := by omega
    subst e9
    go_wp2_with fail
    obtain ⟨L1, B1⟩ := hr.out.bk
    dsimp only [trmV, setX, setY] at B1
    have k0 := fun d os => (B1.regrown d os).c 0 _ rfl
    have k4 := fun d os => (B1.regrown d os).c 4 _ rfl
    clear B1
    simp only [WW.out.w, WW.out.cur] at k0 k4
    refine zg 13 (by kernel_rfl) (by kernel_rfl) ?_
    simp only [zd0, zd1, zd2, zd3]
    repeat (first | go_big_quiet_step (fail) | quiet_step (fail))
    refine wpQuiet_nil ?_
    intro _ hw'
    obtain ⟨⟨dq, osq⟩, hw''⟩ := hw'
    subst hw''
    have hr := zdX (hr.out.below (below_regrown wq dq osq))
    clear k0 k4
    generalize grow (redrawn wq dq) osq = w8 at *
    go_wp2_with fail
    go_end0
    exact ⟨⟨_, rfl⟩, by rw [SE.out]; exact hr.out⟩
 ·obtain ⟨v, V, RC, hv⟩ := H5.out.copyC (by have := HZ.out; have := UL.out; omega) k2 (A + K) A (M - K) (M - K) (C - K) M C (A * 5 + K * 5) ⟨g, A * 5, none⟩ (by have := HZ.out; have := UL.out; omega) (by have := HZ.out; have := UL.out; omega) (Nat.min_eq_right (by omega)) (by omega) (fun z => rfl)
  have H2 := zdX hv
  clear hv H5
  go_upto_region 6 with fail
  clear k2 RC
  obtain ⟨L1, B1⟩ := H2.out.bk
  dsimp only [trmV, setX, setY] at B1
  have k0 := fun d os => (B1.regrown d os).c 0 _ rfl
  have k3 := fun d os => (B1.regrown d os).c 3 _ rfl
  have k4 := fun d os => (B1.regrown d os).c 4 _ rfl
  clear B1
  simp only [CP.out.w, CP.out.cur] at k0 k3 k4
  refine zg 19 (by kernel_rfl) (by kernel_rfl) ?_
  simp only [zd0, zd1, zd2, zd3]
  repeat (first | go_big_quiet_step (fail) | quiet_step (fail))
  refine wpQuiet_nil ?_
  intro _ hw'
  obtain ⟨⟨dq, osq⟩, hw''⟩ := hw'
  subst hw''
  have H2 := zdX (H2.out.below (below_regrown V dq osq))
  clear k0 k3 k4
  generalize grow (redrawn V dq) osq = w6 at *
  have FI := zdX (FI.out w6 H2.out)
  go_wp2_with fail
  refine FI.out.mono ?_; rintro e w7 ⟨⟨vv, rfl⟩, h1⟩
  have H3 := zdX h1
  clear h1 FI H2
  go_wp2_with fail
  obtain ⟨L1, B1⟩ := H3.out.bk
  dsimp only [trmV, setX, setY] at B1
  have k0 := fun d os => (B1.regrown d os).c 0 _ rfl
  have k3 := fun d os => (B1.regrown d os).c 3 _ rfl
  have k4 := fun d os => (B1.regrown d os).c 4 _ rfl
  clear B1
  simp only [U2.out.w, U2.out.cur] at k0 k3 k4
  refine zg 17 (by kernel_rfl) (by kernel_rfl) ?_
  simp only [zd0, zd1, zd2, zd3]
  repeat (first | go_big_quiet_step (fail) | quiet_step (fail))
  refine wpQuiet_nil ?_
  intro _ hw'
  obtain ⟨⟨dq, osq⟩, hw''⟩ := hw'
  subst hw''
  have H3 := zdX (H3.out.below (below_regrown w7 dq osq))
  clear k0 k3 k4
  generalize grow (redrawn w7 dq) osq = w9 at *
  go_wp2_with fail
  clear q1 q3 q4
  have HS : Hid (St w0 F0 tb (zx (zo (zk u (A + K) ((u.cells.drop A).take (M - K))) A K) A 0) w9) := H3
  clear H3
  go_loopw [5] (fun i wr => ∃ k : Nat, k <= M /\ i = .int .i64 ((A : Int) + k) /\ Hid (St w0 F0 tb (zx (zo (zk u (A + K) ((u.cells.drop A).take (M - K))) A K) A k) wr)) (fun i _ => A + M - (intOf i).toNat)
  case atStart => exact ⟨0, Nat.zero_le _, by simp, HS⟩
  case round =>
   obtain ⟨k, hk2, rfl, hr⟩ := hrel
   clear HS
   obtain ⟨wq, hq⟩ : ∃ wq, wq = wr := ⟨_, rfl⟩
   rw [<- hq] at hr ⊢
   clear hq
   have WW := zdX ((U2.out.trans (js (zo (zk u (A + K) ((u.cells.drop A).take (M - K))) A K) A k)))
   by_cases lt : k < M
   ·have q6 : (A : Int) + k < (A : Int) + M := by omega
    go_wp2_with fail
    obtain ⟨L1, B1⟩ := hr.out.bk
    dsimp only [trmV, setX, setY] at B1
    have k0 := fun d os => (B1.regrown d os).c 0 _ rfl
    have k4 := fun d os => (B1.regrown d os).c 4 _ rfl
    clear B1
    simp only [WW.out.w, WW.out.cur] at k0 k4
    refine zg 13 (by kernel_rfl) (by kernel_rfl) ?_
    simp only [zd0, zd1, zd2, zd3]
    repeat (first | go_big_quiet_step (fail) | quiet_step (fail))
    refine wpQuiet_nil ?_
    intro _ hw'
    obtain ⟨⟨dq, osq⟩, hw''⟩ := hw'
    subst hw''
    have hr := zdX (hr.out.below (below_regrown wq dq osq))
    clear k0 k4
    generalize grow (redrawn wq dq) osq = w8 at *
    have bl := BL.out
    have hz := HZ.out
    have hwl := HWL.out
    have ul := U2.out.wl
    obtain ⟨L1, g1, cap1, B1, ec, hc1, ⟨v5, y5⟩, p5, h5⟩ := hr.out.markS (by omega)
    have k27 := B1.c 27 _ rfl
    rw [ec, ul] at k27
    have H5 := zdX h5
    have q0 : (0 : Int) <= (A : Int) + k := by omega
    have q5 : (A : Int) + k < (t.wrt.length : Int) := by omega
    have tn : ((A : Int) + k).toNat = A + k := by omega
    have wk := zdY ((A : Int) + k + 1) (by omega)
    clear B1 ec hc1 h5 ul bl hz hwl hr
    go_wp2_with fail
    go_roundw
    case rel => exact ⟨k + 1, by omega, by go_num, H5⟩
    case measure => simp [intOf]; omega
   ·have e9 : k = M := by omega
    subst e9
    go_wp2_with fail
    obtain ⟨L1, B1⟩ := hr.out.bk
    dsimp only [trmV, setX, setY] at B1
    have k0 := fun d os => (B1.regrown d os).c 0 _ rfl
    have k4 := fun d os => (B1.regrown d os).c 4 _ rfl
    clear B1
    simp only [WW.out.w, WW.out.cur] at k0 k4
    refine zg 13 (by kernel_rfl) (by kernel_rfl) ?_
    simp only [zd0, zd1, zd2, zd3]
    repeat (first | go_big_quiet_step (fail) | quiet_step (fail))
    refine wpQuiet_nil ?_
    intro _ hw'
    obtain ⟨⟨dq, osq⟩, hw''⟩ := hw'
    subst hw''
    have hr := zdX (hr.out.below (below_regrown wq dq osq))
    clear k0 k4
    generalize grow (redrawn wq dq) osq = w8 at *
    go_wp2_with fail
    go_end0
    exact ⟨⟨_, rfl⟩, by rw [SE.out]; exact hr.out⟩
set_option maxHeartbeats 8000000 in
set_option maxRecDepth 100000 in
theorem zcR (h : St w0 F0 tb t W) (f : Fine t) (p : zm t) (n : Int) (np : ¬ 0 < n) (n0 : -10000 <= n) (n1 : n <= 10000) : Calls Tryz.prog 99 #[.pointer (some ⟨tb, 0, none⟩), .int .i64 n] W (Vd w0 F0 tb (zT t n)) := by
 have w1 := f.w1
 have w0' := p.1
 have hh := f.h1
 have cl := f.cl
 have wl := f.wl
 have ar := f.ar
 have x0 := f.x0
 have y0 := f.y0
 have xw : t.cur.x < t.w := by have := f.cx; omega
 have yh : t.cur.y < t.h := by have := f.cy; have := p.2; omega
 have r := f.row y0 yh
 have e1 : (t.cur.y + 1) * t.w = t.cur.y * t.w + t.w := by rw [Int.add_mul, Int.one_mul]
 obtain ⟨A, eA⟩ : ∃ A : Nat, t.cur.y * t.w + t.cur.x = (A : Int) := ⟨(t.cur.y * t.w + t.cur.x).toNat, by omega⟩
 obtain ⟨M, eM⟩ : ∃ M : Nat, t.w - t.cur.x = (M : Int) := ⟨(t.w - t.cur.x).toNat, by omega⟩
 have eZ : (t.cur.y + 1) * t.w = (A : Int) + M := by omega
 obtain ⟨K, eK⟩ : ∃ K : Nat, min (-n) (M : Int) = (K : Int) := ⟨(min (-n) (M : Int)).toNat, by omega⟩
 have hz : A + M <= t.cells.length := by omega
 have ha : 0 < M := by omega
 have hk : K <= M := by omega
 have c1 := qD t t.cur.x t.cur.y
 have c2 := c1.trans (qD (zh t t.cur.x t.cur.y) (t.cur.x + (K : Int)) t.cur.y)
 have S1 : Hid (∀ v W', St w0 F0 tb t W' -> W'.cell? ⟨tb, 2, none⟩ = some v -> Calls Tryz.prog 132 #[.pointer (some ⟨tb, 0, none⟩), .int .i64 t.cur.x, .int .i64 t.cur.y] W' (Vp w0 F0 tb (zh t t.cur.x t.cur.y) v)) := zdX (fun v W' hs hv => vU hs f _ _ y0 yh v hv)
 have S2 : Hid (∀ v W', St w0 F0 tb (zh t t.cur.x t.cur.y) W' -> W'.cell? ⟨tb, 2, none⟩ = some v -> Calls Tryz.prog 132 #[.pointer (some ⟨tb, 0, none⟩), .int .i64 (t.cur.x + (K : Int)), .int .i64 t.cur.y] W' (Vp w0 F0 tb (zh (zh t t.cur.x t.cur.y) (t.cur.x + (K : Int)) t.cur.y) v)) := zdX (fun v W' hs hv => vU hs (f.cw c1) _ _ y0 (by rw [c1.h]; exact yh) v hv)
 have SE := zdX (zcP t n A M K np eA eZ eK _ rfl c2.cl hz hk)
 have C1 := zdX c1
 generalize hu : zh (zh t t.cur.x t.cur.y) (t.cur.x + (K : Int)) t.cur.y = u at *
 have CP : Hid (Cw t (zk u A ((u.cells.drop (A + K)).take (M - K)))) := zdX (c2.trans (xO u _ _ (by have := c2.cl; rw [List.length_take, List.length_drop]; omega)))
 have U2 : Hid (Cw t (zo (zk u A ((u.cells.drop (A + K)).take (M - K))) (A + M - K) K)) := zdX (CP.out.trans (jL _ _ _))
 have FI : Hid (∀ W', St w0 F0 tb (zk u A ((u.cells.drop (A + K)).take (M - K))) W' -> Calls Tryz.prog 105 #[.pointer (some ⟨tb, 0, none⟩), .int .i64 ((A : Int) + M - K), .int .i64 (K : Int)] W' (Vd w0 F0 tb (zo (zk u A ((u.cells.drop (A + K)).take (M - K))) (A + M - K) K))) := zdX (fun W' hs => by
  have := kZ hs (A + M - K) K (by have := CP.out.cl; omega) (by have := CP.out.cl; omega) (by have := CP.out.cl; have := CP.out.wl; omega)
  rw [show ((A + M - K : Nat) : Int) = (A : Int) + M - K by omega] at this
  exact this)
 have m0 := zdY (t.cur.y * t.w) (by omega)
 have m1 : IntKind.i64.wrap (t.cur.y * t.w + t.cur.x) = (A : Int) := by rw [eA]; exact zdY _ (by omega)
 have m2 : IntKind.i64.wrap ((t.cur.y + 1) * t.w) = (A : Int) + M := by rw [eZ]; exact zdY _ (by omega)
 have m3 := zdY (t.cur.y + 1) (by omega)
 have m5 := zdY (t.cur.x + (K : Int)) (by omega)
 have m4 := zdY ((A : Int) + M - K) (by omega)
 have EK := zdX eK
 have EA := zdX eA
 have bl : t.cells.length <= 1048576 := by omega
 have hwl : t.wrt.length = t.cells.length := by omega
 have HWL := zdX hwl
 have BL := zdX bl
 have HZ := zdX hz
 have zb : (A : Int) + (M : Int) <= 1048576 := by omega
 have H1 := zdX h
 obtain ⟨L1, g, cap, B1, ec, hc, ho9, up9⟩ := h.rowC (by omega)
 clear ho9 up9
 obtain ⟨C, rfl⟩ : ∃ C, cap = A + C := ⟨cap - A, by omega⟩
 have kk0 := fun d os => (B1.regrown d os).c 0 _ rfl
 have kk3 := fun d os => (B1.regrown d os).c 3 _ rfl
 have kk4 := fun d os => (B1.regrown d os).c 4 _ rfl
 have kk2 : ∀ d os, (grow (redrawn W d) os).cell? ⟨tb, 2, none⟩ = some (.slice (some ⟨g, 0, none⟩) t.cells.length (A + C)) := fun d os => by rw [<- ec]; exact (B1.regrown d os).c 2 _ rfl
 have q1 : (M : Int) <= (C : Int) := by omega
 have q3 : 0 < C := by omega
 have q4 : (K : Int) <= (M : Int) := by omega
 have UL := zdX c2.cl
 have NP := zdX np
 clear h f p eA eZ eK B1 ec hwl bl cl wl ar hc hz r e1 eM hu c1 c2 xw yh hh
 go_enter Tryz.func99, Tryz.ntmps99
 go_wp2_with fail
 refine zg 35 (by kernel_rfl) (by kernel_rfl) ?_
 simp only [zd0, zd1, zd2, zd3]
 repeat (first | go_big_quiet_step (fail) | quiet_step (fail))
 refine wpQuiet_nil ?_
 intro _ hw'
 obtain ⟨⟨dq, osq⟩, hw''⟩ := hw'
 subst hw''
 have H1 := zdX (H1.out.below (below_regrown W dq osq))
 have k2 := zdX (kk2 dq osq)
 clear kk0 kk2 kk3 kk4
 generalize grow (redrawn W dq) osq = W1 at *
 go_wp2_with fail
 simp only [Nat.add_sub_cancel_left]
 obtain ⟨L1, B1⟩ := H1.out.bk
 dsimp only [trmV, setX, setY] at B1
 have k3 := fun d os => (B1.regrown d os).c 3 _ rfl
 have k4 := fun d os => (B1.regrown d os).c 4 _ rfl
 clear B1
 refine zg 11 (by kernel_rfl) (by kernel_rfl) ?_
 simp only [zd0, zd1, zd2, zd3]
 repeat (first | go_big_quiet_step (fail) | quiet_step (fail))
 refine wpQuiet_nil ?_
 intro _ hw'
 obtain ⟨⟨dq, osq⟩, hw''⟩ := hw'
 subst hw''
 have k2 := zdX (((below_regrown W1 dq osq).cell (p := ⟨tb, 2, none⟩) H1.out.lt).trans k2.out)
 have H1 := zdX (H1.out.below (below_regrown W1 dq osq))
 clear k3 k4
 generalize grow (redrawn W1 dq) osq = W2 at *
 have S1 := zdX (S1.out _ W2 H1.out k2.out)
 go_wp2_with fail
 refine S1.out.mono ?_; rintro e w3 ⟨⟨⟨v, rfl⟩, h3⟩, p3⟩
 have H3 := zdX h3
 have k2 := zdX p3
 clear S1 H1 h3 p3
 go_upto_region 8 with fail
 rw [EK.out]
 obtain ⟨L1, B1⟩ := H3.out.bk
 dsimp only [trmV, setX, setY] at B1
 have k0 := fun d os => (B1.regrown d os).c 0 _ rfl
 have k3 := fun d os => (B1.regrown d os).c 3 _ rfl
 have k4 := fun d os => (B1.regrown d os).c 4 _ rfl
 clear B1
 simp only [C1.out.w, C1.out.cur] at k0 k3 k4
 refine zg 13 (by kernel_rfl) (by kernel_rfl) ?_
 simp only [zd0, zd1, zd2, zd3]
 repeat (first | go_big_quiet_step (fail) | quiet_step (fail))
 refine wpQuiet_nil ?_
 intro _ hw'
 obtain ⟨⟨dq, osq⟩, hw''⟩ := hw'
 subst hw''
 have k2 := zdX (((below_regrown w3 dq osq).cell (p := ⟨tb, 2, none⟩) H3.out.lt).trans k2.out)
 have H3 := zdX (H3.out.below (below_regrown w3 dq osq))
 clear k0 k4 k3 m5
 generalize grow (redrawn w3 dq) osq = w4 at *
 have S2 := zdX (S2.out _ w4 H3.out k2.out)
 go_wp2_with fail
 refine S2.out.mono ?_; rintro e w5 ⟨⟨⟨v, rfl⟩, h5⟩, p5⟩
 have H5 := zdX h5
 rw [<- UL.out] at p5
 have k2 := p5
 clear S2 H3 h5 p5
 by_cases CK : C = K
 ·have mk : M = K := by omega
  obtain ⟨v, V, RC, hv⟩ := H5.out.copyC (by have := HZ.out; have := UL.out; omega) k2 A (A + K) (M - K) M C (M - K) 0 (A * 5) ⟨g, A * 5, none⟩ (by have := HZ.out; have := UL.out; omega) (by have := HZ.out; have := UL.out; omega) (Nat.min_eq_left (by omega)) rfl (fun z => by omega)
  have H2 := zdX hv
  clear hv H5
  have CK := CK.symm
  subst CK
  have MK := zdX mk
  clear mk
  go_upto_region 10 with fail
  clear k2 RC
  obtain ⟨L1, B1⟩ := H2.out.bk
  dsimp only [trmV, setX, setY] at B1
  have k0 := fun d os => (B1.regrown d os).c 0 _ rfl
  have k4 := fun d os => (B1.regrown d os).c 4 _ rfl
  clear B1
  simp only [CP.out.w, CP.out.cur] at k0 k4
  refine zg 16 (by kernel_rfl) (by kernel_rfl) ?_
  simp only [zd0, zd1, zd2, zd3]
  repeat (first | go_big_quiet_step (fail) | quiet_step (fail))
  refine wpQuiet_nil ?_
  intro _ hw'
  obtain ⟨⟨dq, osq⟩, hw''⟩ := hw'
  subst hw''
  have H2 := zdX (H2.out.below (below_regrown V dq osq))
  clear k0 k4
  generalize grow (redrawn V dq) osq = w6 at *
  have FI := zdX (FI.out w6 H2.out)
  go_wp2_with fail
  refine FI.out.mono ?_; rintro e w7 ⟨⟨vv, rfl⟩, h1⟩
  have H3 := zdX h1
  clear h1 FI H2
  go_wp2_with fail
  obtain ⟨L1, B1⟩ := H3.out.bk
  dsimp only [trmV, setX, setY] at B1
  have k0 := fun d os => (B1.regrown d os).c 0 _ rfl
  have k3 := fun d os => (B1.regrown d os).c 3 _ rfl
  have k4 := fun d os => (B1.regrown d os).c 4 _ rfl
  clear B1
  simp only [U2.out.w, U2.out.cur] at k0 k3 k4
  refine zg 17 (by kernel_rfl) (by kernel_rfl) ?_
  simp only [zd0, zd1, zd2, zd3]
  repeat (first | go_big_quiet_step (fail) | quiet_step (fail))
  refine wpQuiet_nil ?_
  intro _ hw'
  obtain ⟨⟨dq, osq⟩, hw''⟩ := hw'
  subst hw''
  have H3 := zdX (H3.out.below (below_regrown w7 dq osq))
  clear k0 k3 k4
  generalize grow (redrawn w7 dq) osq = w9 at *
  go_wp2_with fail
  clear q1 q3 q4
  have HS : Hid (St w0 F0 tb (zx (zo (zk u A ((u.cells.drop (A + K)).take (M - K))) (A + M - K) K) A 0) w9) := H3
  clear H3
  go_loopw [5] (fun i wr => ∃ k : Nat, k <= M /\ i = .int .i64 ((A : Int) + k) /\ Hid (St w0 F0 tb (zx (zo (zk u A ((u.cells.drop (A + K)).take (M - K))) (A + M - K) K) A k) wr)) (fun i _ => A + M - (intOf i).toNat)
  case atStart => exact ⟨0, Nat.zero_le _, by simp, HS⟩
  case round =>
   obtain ⟨k, hk2, rfl, hr⟩ := hrel
   clear HS
   obtain ⟨wq, hq⟩ : ∃ wq, wq = wr := ⟨_, rfl⟩
   rw [<- hq] at hr ⊢
   clear hq
   have WW := zdX ((U2.out.trans (js (zo (zk u A ((u.cells.drop (A + K)).take (M - K))) (A + M - K) K) A k)))
   by_cases lt : k < M
   ·have q6 : (A : Int) + k < (A : Int) + M := by omega
    go_wp2_with fail
    obtain ⟨L1, B1⟩ := hr.out.bk
    dsimp only [trmV, setX, setY] at B1
    have k0 := fun d os => (B1.regrown d os).c 0 _ rfl
    have k4 := fun d os => (B1.regrown d os).c 4 _ rfl
    clear B1
    simp only [WW.out.w, WW.out.cur] at k0 k4
    refine zg 13 (by kernel_rfl) (by kernel_rfl) ?_
    simp only [zd0, zd1, zd2, zd3]
    repeat (first | go_big_quiet_step (fail) | quiet_step (fail))
    refine wpQuiet_nil ?_
    intro _ hw'
    obtain ⟨⟨dq, osq⟩, hw''⟩ := hw'
    subst hw''
    have hr := zdX (hr.out.below (below_regrown wq dq osq))
    clear k0 k4
    generalize grow (redrawn wq dq) osq = w8 at *
    have bl := BL.out
    have hz := HZ.out
    have hwl := HWL.out
    have ul := U2.out.wl
    obtain ⟨L1, g1, cap1, B1, ec, hc1, ⟨v5, y5⟩, p5, h5⟩ := hr.out.markS (by omega)
    have k27 := B1.c 27 _ rfl
    rw [ec, ul] at k27
    have H5 := zdX h5
    have q0 : (0 : Int) <= (A : Int) + k := by omega
    have q5 : (A : Int) + k < (t.wrt.length : Int) := by omega
    have tn : ((A : Int) + k).toNat = A + k := by omega
    have wk := zdY ((A : Int) + k + 1) (by omega)
    clear B1 ec hc1 h5 ul bl hz hwl hr
    go_wp2_with fail
    go_roundw
    case rel => exact ⟨k + 1, by omega, by go_num, H5⟩
    case measure => simp [intOf]; omega
   ·have e9 : k = M := by omega
    subst e9
    go_wp2_with fail
    obtain ⟨L1, B1⟩ := hr.out.bk
    dsimp only [trmV, setX, setY] at B1
    have k0 := fun d os => (B1.regrown d os).c 0 _ rfl
    have k4 := fun d os => (B1.regrown d os).c 4 _ rfl
    clear B1
    simp only [WW.out.w, WW.out.cur] at k0 k4
    refine zg 13 (by kernel_rfl) (by kernel_rfl) ?_
    simp only [zd0, zd1, zd2, zd3]
    repeat (first | go_big_quiet_step (fail) | quiet_step (fail))
    refine wpQuiet_nil ?_
    intro _ hw'
    obtain ⟨⟨dq, osq⟩, hw''⟩ := hw'
    subst hw''
    have hr := zdX (hr.out.below (below_regrown wq dq osq))
    clear k0 k4
    generalize grow (redrawn wq dq) osq = w8 at *
    go_wp2_with fail
    go_end0
    exact ⟨⟨_, rfl⟩, by rw [SE.out]; exact hr.out⟩
 ·obtain ⟨v, V, RC, hv⟩ := H5.out.copyC (by have := HZ.out; have := UL.out; omega) k2 A (A + K) (M - K) M C (M - K) (C - K) (A * 5) ⟨g, A * 5 + K * 5, none⟩ (by have := HZ.out; have := UL.out; omega) (by have := HZ.out; have := UL.out; omega) (Nat.min_eq_left (by omega)) rfl (fun z => by rw [Nat.add_mul])
  have H2 := zdX hv
  clear hv H5
  go_upto_region 10 with fail
  clear k2 RC
  obtain ⟨L1, B1⟩ := H2.out.bk
  dsimp only [trmV, setX, setY] at B1
  have k0 := fun d os => (B1.regrown d os).c 0 _ rfl
  have k4 := fun d os => (B1.regrown d os).c 4 _ rfl
  clear B1
  simp only [CP.out.w, CP.out.cur] at k0 k4
  refine zg 16 (by kernel_rfl) (by kernel_rfl) ?_
  simp only [zd0, zd1, zd2, zd3]
  repeat (first | go_big_quiet_step (fail) | quiet_step (fail))
  refine wpQuiet_nil ?_
  intro _ hw'
  obtain ⟨⟨dq, osq⟩, hw''⟩ := hw'
  subst hw''
  have H2 := zdX (H2.out.below (below_regrown V dq osq))
  clear k0 k4
  generalize grow (redrawn V dq) osq = w6 at *
  have FI := zdX (FI.out w6 H2.out)
  go_wp2_with fail
  refine FI.out.mono ?_; rintro e w7 ⟨⟨vv, rfl⟩, h1⟩
  have H3 := zdX h1
  clear h1 FI H2
  go_wp2_with fail
  obtain ⟨L1, B1⟩ := H3.out.bk
  dsimp only [trmV, setX, setY] at B1
  have k0 := fun d os => (B1.regrown d os).c 0 _ rfl
  have k3 := fun d os => (B1.regrown d os).c 3 _ rfl
  have k4 := fun d os => (B1.regrown d os).c 4 _ rfl
  clear B1
  simp only [U2.out.w, U2.out.cur] at k0 k3 k4
  refine zg 17 (by kernel_rfl) (by kernel_rfl) ?_
  simp only [zd0, zd1, zd2, zd3]
  repeat (first | go_big_quiet_step (fail) | quiet_step (fail))
  refine wpQuiet_nil ?_
  intro _ hw'
  obtain ⟨⟨dq, osq⟩, hw''⟩ := hw'
  subst hw''
  have H3 := zdX (H3.out.below (below_regrown w7 dq osq))
  clear k0 k3 k4
  generalize grow (redrawn w7 dq) osq = w9 at *
  go_wp2_with fail
  clear q1 q3 q4
  have HS : Hid (St w0 F0 tb (zx (zo (zk u A ((u.cells.drop (A + K)).take (M - K))) (A + M - K) K) A 0) w9) := H3
  clear H3
  go_loopw [5] (fun i wr => ∃ k : Nat, k <= M /\ i = .int .i64 ((A : Int) + k) /\ Hid (St w0 F0 tb (zx (zo (zk u A ((u.cells.drop (A + K)).take (M - K))) (A + M - K) K) A k) wr)) (fun i _ => A + M - (intOf i).toNat)
  case atStart => exact ⟨0, Nat.zero_le _, by simp, HS⟩
  case round =>
   obtain ⟨k, hk2, rfl, hr⟩ := hrel
   clear HS
   obtain ⟨wq, hq⟩ : ∃ wq, wq = wr := ⟨_, rfl⟩
   rw [<- hq] at hr ⊢
   clear hq
   have WW := zdX ((U2.out.trans (js (zo (zk u A ((u.cells.drop (A + K)).take (M - K))) (A + M - K) K) A k)))
   by_cases lt : k < M
   ·have q6 : (A : Int) + k < (A : Int) + M := by omega
    go_wp2_with fail
    obtain ⟨L1, B1⟩ := hr.out.bk
    dsimp only [trmV, setX, setY] at B1
    have k0 := fun d os => (B1.regrown d os).c 0 _ rfl
    have k4 := fun d os => (B1.regrown d os).c 4 _ rfl
    clear B1
    simp only [WW.out.w, WW.out.cur] at k0 k4
    refine zg 13 (by kernel_rfl) (by kernel_rfl) ?_
    simp only [zd0, zd1, zd2, zd3]
    repeat (first | go_big_quiet_step (fail) | quiet_step (fail))
    refine wpQuiet_nil ?_
    intro _ hw'
    obtain ⟨⟨dq, osq⟩, hw''⟩ := hw'
    subst hw''
    have hr := zdX (hr.out.below (below_regrown wq dq osq))
    clear k0 k4
    generalize grow (redrawn wq dq) osq = w8 at *
    have bl := BL.out
    have hz := HZ.out
    have hwl := HWL.out
    have ul := U2.out.wl
    obtain ⟨L1, g1, cap1, B1, ec, hc1, ⟨v5, y5⟩, p5, h5⟩ := hr.out.markS (by omega)
    have k27 := B1.c 27 _ rfl
    rw [ec, ul] at k27
    have H5 := zdX h5
    have q0 : (0 : Int) <= (A : Int) + k := by omega
    have q5 : (A : Int) + k < (t.wrt.length : Int) := by omega
    have tn : ((A : Int) + k).toNat = A + k := by omega
    have wk := zdY ((A : Int) + k + 1) (by omega)
    clear B1 ec hc1 h5 ul bl hz hwl hr
    go_wp2_with fail
    go_roundw
    case rel => exact ⟨k + 1, by omega, by go_num, H5⟩
    case measure => simp [intOf]; omega
   ·have e9 : k = M := by omega
    subst e9
    go_wp2_with fail
    obtain ⟨L1, B1⟩ := hr.out.bk
    dsimp only [trmV, setX, setY] at B1
    have k0 := fun d os => (B1.regrown d os).c 0 _ rfl
    have k4 := fun d os => (B1.regrown d os).c 4 _ rfl
    clear B1
    simp only [WW.out.w, WW.out.cur] at k0 k4
    refine zg 13 (by kernel_rfl) (by kernel_rfl) ?_
    simp only [zd0, zd1, zd2, zd3]
    repeat (first | go_big_quiet_step (fail) | quiet_step (fail))
    refine wpQuiet_nil ?_
    intro _ hw'
    obtain ⟨⟨dq, osq⟩, hw''⟩ := hw'
    subst hw''
    have hr := zdX (hr.out.below (below_regrown wq dq osq))
    clear k0 k4
    generalize grow (redrawn wq dq) osq = w8 at *
    go_wp2_with fail
    go_end0
    exact ⟨⟨_, rfl⟩, by rw [SE.out]; exact hr.out⟩
theorem ZF (h : St w0 F0 tb t W) (f : Fine t) (p : zm t) (n : Int) (n0 : -10000 <= n) (n1 : n <= 10000) : Calls Tryz.prog 99 #[.pointer (some ⟨tb, 0, none⟩), .int .i64 n] W (Vd w0 F0 tb (zT t n)) := by
 by_cases np : 0 < n
 ·exact zcQ h f p n np n0 n1
 ·exact zcR h f p n np n0 n1
end
end
section
open Go Go.RowKit Go.Sort
section
variable {w0 : World} {F0 : List Nat} {tb : Nat} {t t' : Trm} {W W' : World} {L : Lay}
theorem _root_.Go.Proofs.YtmaofighbpnbiaaGreatDoor.Fine.pg {t : Trm} (f : Fine t) (p : zm t) : 0 <= t.top /\ t.top <= t.bot /\ t.bot < t.h /\ t.h <= 4096 := by
 have := f.p0; have := f.p1; have := f.p2; have := p.2; have := f.h1
 omega
set_option maxHeartbeats 4000000 in
set_option maxRecDepth 100000 in
theorem ZG (h : St w0 F0 tb t W) (f : Fine t) (p : zm t) : Calls Tryz.prog 81 #[.pointer (some ⟨tb, 0, none⟩)] W (Vd w0 F0 tb (zK t)) := by
 obtain ⟨g0, g1, g2, g3⟩ := f.pg p
 have y0 := f.y0
 have yh : t.cur.y < t.h := by have := f.cy; have := p.2; omega
 have H1 := zdX h
 have SC : Hid (∀ W', St w0 F0 tb t W' -> Calls Tryz.prog 103 #[.pointer (some ⟨tb, 0, none⟩), .int .i64 t.top, .int .i64 (t.bot + 1), .int .i64 (1)] W' (Vd w0 F0 tb (qh t t.top (t.bot + 1) (1)))) := zdX (fun W' hs => vV hs f p _ _ _ g0 (by omega) (by omega) (by decide) (by decide))
 have m1 := zdY (t.bot + 1) (by omega)
 have m2 := zdY (t.cur.y + 1) (by omega)
 have m3 := zdY (t.h - 1) (by omega)
 have m4 := zdY (t.cur.y - 1) (by omega)
 by_cases c : t.cur.y = t.bot
 ·have e0 : Hid (zK t = qh t t.top (t.bot + 1) (1)) := zdX (by unfold zK; rw [if_pos c])
  have cb : (t.cur.y == t.bot) = true := by simpa using c
  clear h f p c
  go_enter Tryz.func81, Tryz.ntmps81
  go_wp2_with fail
  obtain ⟨L1, B1⟩ := H1.out.bk
  dsimp only [trmV, setX, setY] at B1
  have k4 := fun d os => (B1.regrown d os).c 4 _ rfl
  have k22 := fun d os => (B1.regrown d os).c 22 _ rfl
  clear B1
  refine zg 9 (by kernel_rfl) (by kernel_rfl) ?_
  simp only [zd0, zd1, zd2, zd3]
  repeat (first | go_big_quiet_step (fail) | quiet_step (fail))
  refine wpQuiet_nil ?_
  intro _ hw'
  obtain ⟨⟨dq, osq⟩, hw''⟩ := hw'
  subst hw''
  have H1 := zdX (H1.out.below (below_regrown W dq osq))
  clear k4 k22
  generalize grow (redrawn W dq) osq = W1 at *
  go_wp2_with fail
  obtain ⟨L1, B1⟩ := H1.out.bk
  dsimp only [trmV, setX, setY] at B1
  have k21 := fun d os => (B1.regrown d os).c 21 _ rfl
  have k22 := fun d os => (B1.regrown d os).c 22 _ rfl
  clear B1
  refine zg 10 (by kernel_rfl) (by kernel_rfl) ?_
  simp only [zd0, zd1, zd2, zd3]
  repeat (first | go_big_quiet_step (fail) | quiet_step (fail))
  refine wpQuiet_nil ?_
  intro _ hw'
  obtain ⟨⟨dq, osq⟩, hw''⟩ := hw'
  subst hw''
  have H1 := zdX (H1.out.below (below_regrown W1 dq osq))
  clear k21 k22
  generalize grow (redrawn W1 dq) osq = W2 at *
  have SC := zdX (SC.out W2 H1.out)
  go_wp2_with fail
  refine SC.out.mono ?_; rintro e w2 ⟨⟨v, rfl⟩, h1⟩
  have H2 := zdX h1
  clear h1
  clear SC H1
  go_wp2_with fail
  go_end0
  exact ⟨⟨_, rfl⟩, by rw [e0.out]; exact H2.out⟩
 ·have e0 : Hid (zK t = setY t (min (t.cur.y + 1) (t.h - 1))) := zdX (by unfold zK; rw [if_neg c])
  have cb : (t.cur.y == t.bot) = false := by simpa using c
  clear h f p c SC
  go_enter Tryz.func81, Tryz.ntmps81
  go_wp2_with fail
  obtain ⟨L1, B1⟩ := H1.out.bk
  dsimp only [trmV, setX, setY] at B1
  have k4 := fun d os => (B1.regrown d os).c 4 _ rfl
  have k22 := fun d os => (B1.regrown d os).c 22 _ rfl
  clear B1
  refine zg 9 (by kernel_rfl) (by kernel_rfl) ?_
  simp only [zd0, zd1, zd2, zd3]
  repeat (first | go_big_quiet_step (fail) | quiet_step (fail))
  refine wpQuiet_nil ?_
  intro _ hw'
  obtain ⟨⟨dq, osq⟩, hw''⟩ := hw'
  subst hw''
  have H1 := zdX (H1.out.below (below_regrown W dq osq))
  clear k4 k22
  generalize grow (redrawn W dq) osq = W1 at *
  go_wp2_with fail
  obtain ⟨L1, B1⟩ := H1.out.bk
  dsimp only [trmV, setX, setY] at B1
  have k4 := fun d os => (B1.regrown d os).c 4 _ rfl
  have k1 := fun d os => (B1.regrown d os).c 1 _ rfl
  clear B1
  refine zg 17 (by kernel_rfl) (by kernel_rfl) ?_
  simp only [zd0, zd1, zd2, zd3]
  repeat (first | go_big_quiet_step (fail) | quiet_step (fail))
  refine wpQuiet_nil ?_
  intro _ hw'
  obtain ⟨⟨dq, osq⟩, hw''⟩ := hw'
  subst hw''
  have H1 := zdX (H1.out.below (below_regrown W1 dq osq))
  clear k4 k1
  generalize grow (redrawn W1 dq) osq = W2 at *
  have H2 := zdX (H1.out.setY (min (t.cur.y + 1) (t.h - 1)))
  obtain ⟨L1, B1⟩ := H1.out.bk
  dsimp only [trmV, setX, setY] at B1
  have k4 := B1.c 4 _ rfl
  have kf4 := B1.f 4
  clear B1
  clear H1
  go_wp2_with fail
  go_end0
  exact ⟨⟨_, rfl⟩, by rw [e0.out]; exact H2.out⟩
set_option maxHeartbeats 4000000 in
set_option maxRecDepth 100000 in
theorem zcS (h : St w0 F0 tb t W) (f : Fine t) (p : zm t) : Calls Tryz.prog 89 #[.pointer (some ⟨tb, 0, none⟩)] W (Vd w0 F0 tb (qB t)) := by
 obtain ⟨g0, g1, g2, g3⟩ := f.pg p
 have y0 := f.y0
 have yh : t.cur.y < t.h := by have := f.cy; have := p.2; omega
 have H1 := zdX h
 have SC : Hid (∀ W', St w0 F0 tb t W' -> Calls Tryz.prog 103 #[.pointer (some ⟨tb, 0, none⟩), .int .i64 t.top, .int .i64 (t.bot + 1), .int .i64 (-1)] W' (Vd w0 F0 tb (qh t t.top (t.bot + 1) (-1)))) := zdX (fun W' hs => vV hs f p _ _ _ g0 (by omega) (by omega) (by decide) (by decide))
 have m1 := zdY (t.bot + 1) (by omega)
 have m2 := zdY (t.cur.y + 1) (by omega)
 have m3 := zdY (t.h - 1) (by omega)
 have m4 := zdY (t.cur.y - 1) (by omega)
 by_cases c : t.cur.y = t.top
 ·have e0 : Hid (qB t = qh t t.top (t.bot + 1) (-1)) := zdX (by unfold qB; rw [if_pos c])
  have cb : (t.cur.y == t.top) = true := by simpa using c
  clear h f p c
  go_enter Tryz.func89, Tryz.ntmps89
  go_wp2_with fail
  obtain ⟨L1, B1⟩ := H1.out.bk
  dsimp only [trmV, setX, setY] at B1
  have k4 := fun d os => (B1.regrown d os).c 4 _ rfl
  have k21 := fun d os => (B1.regrown d os).c 21 _ rfl
  clear B1
  refine zg 9 (by kernel_rfl) (by kernel_rfl) ?_
  simp only [zd0, zd1, zd2, zd3]
  repeat (first | go_big_quiet_step (fail) | quiet_step (fail))
  refine wpQuiet_nil ?_
  intro _ hw'
  obtain ⟨⟨dq, osq⟩, hw''⟩ := hw'
  subst hw''
  have H1 := zdX (H1.out.below (below_regrown W dq osq))
  clear k4 k21
  generalize grow (redrawn W dq) osq = W1 at *
  go_wp2_with fail
  obtain ⟨L1, B1⟩ := H1.out.bk
  dsimp only [trmV, setX, setY] at B1
  have k21 := fun d os => (B1.regrown d os).c 21 _ rfl
  have k22 := fun d os => (B1.regrown d os).c 22 _ rfl
  clear B1
  refine zg 10 (by kernel_rfl) (by kernel_rfl) ?_
  simp only [zd0, zd1, zd2, zd3]
  repeat (first | go_big_quiet_step (fail) | quiet_step (fail))
  refine wpQuiet_nil ?_
  intro _ hw'
  obtain ⟨⟨dq, osq⟩, hw''⟩ := hw'
  subst hw''
  have H1 := zdX (H1.out.below (below_regrown W1 dq osq))
  clear k21 k22
  generalize grow (redrawn W1 dq) osq = W2 at *
  have SC := zdX (SC.out W2 H1.out)
  go_wp2_with fail
  refine SC.out.mono ?_; rintro e w2 ⟨⟨v, rfl⟩, h1⟩
  have H2 := zdX h1
  clear h1
  clear SC H1
  go_wp2_with fail
  go_end0
  exact ⟨⟨_, rfl⟩, by rw [e0.out]; exact H2.out⟩
 ·have e0 : Hid (qB t = setY t (max (t.cur.y - 1) 0)) := zdX (by unfold qB; rw [if_neg c])
  have cb : (t.cur.y == t.top) = false := by simpa using c
  clear h f p c SC
  go_enter Tryz.func89, Tryz.ntmps89
  go_wp2_with fail
  obtain ⟨L1, B1⟩ := H1.out.bk
  dsimp only [trmV, setX, setY] at B1
  have k4 := fun d os => (B1.regrown d os).c 4 _ rfl
  have k21 := fun d os => (B1.regrown d os).c 21 _ rfl
  clear B1
  refine zg 9 (by kernel_rfl) (by kernel_rfl) ?_
  simp only [zd0, zd1, zd2, zd3]
  repeat (first | go_big_quiet_step (fail) | quiet_step (fail))
  refine wpQuiet_nil ?_
  intro _ hw'
  obtain ⟨⟨dq, osq⟩, hw''⟩ := hw'
  subst hw''
  have H1 := zdX (H1.out.below (below_regrown W dq osq))
  clear k4 k21
  generalize grow (redrawn W dq) osq = W1 at *
  have H2 := zdX (H1.out.setY (max (t.cur.y - 1) 0))
  obtain ⟨L1, B1⟩ := H1.out.bk
  dsimp only [trmV, setX, setY] at B1
  have k4 := B1.c 4 _ rfl
  have kf4 := B1.f 4
  clear B1
  clear H1
  go_wp2_with fail
  go_end0
  exact ⟨⟨_, rfl⟩, by rw [e0.out]; exact H2.out⟩
set_option maxHeartbeats 4000000 in
set_option maxRecDepth 100000 in
theorem ZH (h : St w0 F0 tb t W) (f : Fine t) (p : zm t) : Calls Tryz.prog 98 #[.pointer (some ⟨tb, 0, none⟩)] W (Vd w0 F0 tb (zH t)) := by
 have f1 : Fine (setX { t with pend := false } 0) := jE (jW f _) 0 (by omega) (by omega)
 have H1 := zdX h
 have H2 := zdX ((h.setPend false).setX 0)
 have CT := zdX (ZG H2.out f1 p)
 clear h f p f1 H2
 obtain ⟨L1, B1⟩ := H1.out.bk
 dsimp only [trmV, setX, setY] at B1
 have k16 := B1.c 16 _ rfl
 have kf16 := B1.f 16
 have k3 := B1.c 3 _ rfl
 have kf3 := B1.f 3
 clear B1
 clear H1
 go_enter Tryz.func98, Tryz.ntmps98
 go_wp2_with fail
 refine CT.out.mono ?_; rintro e w2 ⟨⟨v, rfl⟩, h1⟩
 have H2 := zdX h1
 clear h1
 clear CT
 go_wp2_with fail
 go_end0
 exact ⟨⟨_, rfl⟩, H2.out⟩
set_option maxHeartbeats 4000000 in
set_option maxRecDepth 100000 in
theorem VK (h : St w0 F0 tb t W) (f : Fine t) (p : zm t) (n : Int) (n0 : -10000 <= n) (n1 : n <= 10000) : Calls Tryz.prog 142 #[.pointer (some ⟨tb, 0, none⟩), .int .i64 n] W (Vd w0 F0 tb (qL t n)) := by
 obtain ⟨g0, g1, g2, g3⟩ := f.pg p
 have y0 := f.y0
 have H1 := zdX h
 have m1 := zdY (t.bot + 1) (by omega)
 by_cases c1 : t.top <= t.cur.y
 ·by_cases c2 : t.cur.y <= t.bot
  ·have e0 : Hid (qL t n = setX (qh t t.cur.y (t.bot + 1) n) 0) := zdX (by unfold qL; rw [if_pos ⟨c1, c2⟩])
   have SC : Hid (∀ W', St w0 F0 tb t W' -> Calls Tryz.prog 103 #[.pointer (some ⟨tb, 0, none⟩), .int .i64 t.cur.y, .int .i64 (t.bot + 1), .int .i64 n] W' (Vd w0 F0 tb (qh t t.cur.y (t.bot + 1) n))) := zdX (fun W' hs => vV hs f p _ _ _ y0 (by omega) (by omega) n0 n1)
   clear h f p
   go_enter Tryz.func142, Tryz.ntmps142
   go_wp2_with fail
   obtain ⟨L1, B1⟩ := H1.out.bk
   dsimp only [trmV, setX, setY] at B1
   have k4 := fun d os => (B1.regrown d os).c 4 _ rfl
   have k21 := fun d os => (B1.regrown d os).c 21 _ rfl
   have k22 := fun d os => (B1.regrown d os).c 22 _ rfl
   clear B1
   refine zg 21 (by kernel_rfl) (by kernel_rfl) ?_
   simp only [zd0, zd1, zd2, zd3]
   repeat (first | go_big_quiet_step (fail) | quiet_step (fail))
   refine wpQuiet_nil ?_
   intro _ hw'
   obtain ⟨⟨dq, osq⟩, hw''⟩ := hw'
   subst hw''
   have H1 := zdX (H1.out.below (below_regrown W dq osq))
   clear k4 k21 k22
   generalize grow (redrawn W dq) osq = W1 at *
   go_wp2_with fail
   obtain ⟨L1, B1⟩ := H1.out.bk
   dsimp only [trmV, setX, setY] at B1
   have k4 := fun d os => (B1.regrown d os).c 4 _ rfl
   have k22 := fun d os => (B1.regrown d os).c 22 _ rfl
   clear B1
   refine zg 12 (by kernel_rfl) (by kernel_rfl) ?_
   simp only [zd0, zd1, zd2, zd3]
   repeat (first | go_big_quiet_step (fail) | quiet_step (fail))
   refine wpQuiet_nil ?_
   intro _ hw'
   obtain ⟨⟨dq, osq⟩, hw''⟩ := hw'
   subst hw''
   have H1 := zdX (H1.out.below (below_regrown W1 dq osq))
   clear k4 k22
   generalize grow (redrawn W1 dq) osq = W2 at *
   have SC := zdX (SC.out W2 H1.out)
   go_wp2_with fail
   refine SC.out.mono ?_; rintro e w2 ⟨⟨v, rfl⟩, h1⟩
   have H2 := zdX h1
   clear h1
   clear SC H1
   have H3 := zdX (H2.out.setX 0)
   obtain ⟨L1, B1⟩ := H2.out.bk
   dsimp only [trmV, setX, setY] at B1
   have k3 := B1.c 3 _ rfl
   have kf3 := B1.f 3
   clear B1
   clear H2
   go_wp2_with fail
   go_end0
   exact ⟨⟨_, rfl⟩, by rw [e0.out]; exact H3.out⟩
  ·have e0 : Hid (qL t n = t) := zdX (by unfold qL; rw [if_neg (fun z => c2 z.2)])
   clear h f p
   go_enter Tryz.func142, Tryz.ntmps142
   go_wp2_with fail
   obtain ⟨L1, B1⟩ := H1.out.bk
   dsimp only [trmV, setX, setY] at B1
   have k4 := fun d os => (B1.regrown d os).c 4 _ rfl
   have k21 := fun d os => (B1.regrown d os).c 21 _ rfl
   have k22 := fun d os => (B1.regrown d os).c 22 _ rfl
   clear B1
   refine zg 21 (by kernel_rfl) (by kernel_rfl) ?_
   simp only [zd0, zd1, zd2, zd3]
   repeat (first | go_big_quiet_step (fail) | quiet_step (fail))
   refine wpQuiet_nil ?_
   intro _ hw'
   obtain ⟨⟨dq, osq⟩, hw''⟩ := hw'
   subst hw''
   have H1 := zdX (H1.out.below (below_regrown W dq osq))
   clear k4 k21 k22
   generalize grow (redrawn W dq) osq = W1 at *
   go_wp2_with fail
   go_end0
   exact ⟨⟨_, rfl⟩, by rw [e0.out]; exact H1.out⟩
 ·have e0 : Hid (qL t n = t) := zdX (by unfold qL; rw [if_neg (fun z => c1 z.1)])
  have d2 : t.cur.y < t.top := by omega
  have d1 : decide (t.top <= t.cur.y) = false := by simpa using c1
  clear h f p
  go_enter Tryz.func142, Tryz.ntmps142
  go_wp2_with fail
  obtain ⟨L1, B1⟩ := H1.out.bk
  dsimp only [trmV, setX, setY] at B1
  have k4 := fun d os => (B1.regrown d os).c 4 _ rfl
  have k21 := fun d os => (B1.regrown d os).c 21 _ rfl
  clear B1
  refine zg 21 (by kernel_rfl) (by kernel_rfl) ?_
  simp only [zd0, zd1, zd2, zd3]
  repeat (first | go_big_quiet_step (fail) | quiet_step (fail))
  refine wpQuiet_nil ?_
  intro _ hw'
  obtain ⟨⟨dq, osq⟩, hw''⟩ := hw'
  subst hw''
  have H1 := zdX (H1.out.below (below_regrown W dq osq))
  clear k4 k21
  generalize grow (redrawn W dq) osq = W1 at *
  go_wp2_with fail
  go_end0
  exact ⟨⟨_, rfl⟩, by rw [e0.out]; exact H1.out⟩
set_option maxHeartbeats 4000000 in
set_option maxRecDepth 100000 in
theorem zcT (h : St w0 F0 tb t W) (f : Fine t) (p : zm t) (n : Nums) (A : Option Addr) (c : Nat) (hn : NumAt W n A c) : Calls Tryz.prog 119 #[.pointer (some ⟨tb, 0, none⟩), numV n A c] W (Vd w0 F0 tb (qL t (-(n.count 0)))) := by
 obtain ⟨Q, hQ⟩ : ∃ Q, Q = W.alloc (.cells [.int .u8 n.prefix_, .slice A n.list.length c, .bool n.void].toArray 129) := ⟨_, rfl⟩
 have BQ : Below W.heap.size W Q := by rw [hQ]; exact (Below.refl _ W).alloc zdZ _
 have KQ : Bk Q W.heap.size [.int .u8 n.prefix_, .slice A n.list.length c, .bool n.void] 129 := by rw [hQ]; exact Bk.new W _ _
 obtain ⟨g0, g1, g2, g3⟩ := f.pg p
 have H1 := zdX (h.below BQ)
 have KH := zdX KQ
 have CT := zdX (fun W' (hb : Below Q.heap.size Q W') => jx n A c 0 W' ((hn.below BQ).below hb))
 obtain ⟨z0, z1⟩ := ja hn 0
 unfold numV at CT ⊢
 generalize n.count 0 = z at *
 have m1 := zdY (t.bot + 1) (by omega)
 have m2 := zdY (-z) (by omega)
 have SC : Hid (∀ W', St w0 F0 tb t W' -> Calls Tryz.prog 142 #[.pointer (some ⟨tb, 0, none⟩), .int .i64 (-z)] W' (Vd w0 F0 tb (qL t (-z)))) := zdX (fun W' hs => VK hs f p _ (by omega) (by omega))
 have j0 := KQ.c 0 _ rfl
 have jf0 := KQ.f 0
 have j1 := KQ.c 1 _ rfl
 have jf1 := KQ.f 1
 have j2 := KQ.c 2 _ rfl
 have jf2 := KQ.f 2
 clear KQ BQ hn h f p
 go_enter Tryz.func119, Tryz.ntmps119
 go_upto_region 1 with fail
 rw [<- hQ]
 clear hQ
 go_wp2_with fail
 refine (CT.out Q (Below.refl _ Q)).mono ?_; rintro e w1 ⟨rfl, hb⟩
 have H1 := zdX (H1.out.below hb)
 have SC := zdX (SC.out w1 H1.out)
 clear CT hb j0 j1 j2 jf0 jf1 jf2
 go_wp2_with fail
 refine SC.out.mono ?_; rintro e w2 ⟨⟨v, rfl⟩, h1⟩
 have H2 := zdX h1
 clear h1
 clear SC
 go_wp2_with fail
 go_end0
 exact ⟨⟨_, rfl⟩, H2.out⟩
set_option maxHeartbeats 4000000 in
set_option maxRecDepth 100000 in
theorem zcU (h : St w0 F0 tb t W) (f : Fine t) (p : zm t) (n : Nums) (A : Option Addr) (c : Nat) (hn : NumAt W n A c) : Calls Tryz.prog 120 #[.pointer (some ⟨tb, 0, none⟩), numV n A c] W (Vd w0 F0 tb (qL t (n.count 0))) := by
 obtain ⟨Q, hQ⟩ : ∃ Q, Q = W.alloc (.cells [.int .u8 n.prefix_, .slice A n.list.length c, .bool n.void].toArray 129) := ⟨_, rfl⟩
 have BQ : Below W.heap.size W Q := by rw [hQ]; exact (Below.refl _ W).alloc zdZ _
 have KQ : Bk Q W.heap.size [.int .u8 n.prefix_, .slice A n.list.length c, .bool n.void] 129 := by rw [hQ]; exact Bk.new W _ _
 obtain ⟨g0, g1, g2, g3⟩ := f.pg p
 have H1 := zdX (h.below BQ)
 have KH := zdX KQ
 have CT := zdX (fun W' (hb : Below Q.heap.size Q W') => jx n A c 0 W' ((hn.below BQ).below hb))
 obtain ⟨z0, z1⟩ := ja hn 0
 unfold numV at CT ⊢
 generalize n.count 0 = z at *
 have m1 := zdY (t.bot + 1) (by omega)
 have m2 := zdY (-z) (by omega)
 have SC : Hid (∀ W', St w0 F0 tb t W' -> Calls Tryz.prog 142 #[.pointer (some ⟨tb, 0, none⟩), .int .i64 (z)] W' (Vd w0 F0 tb (qL t (z)))) := zdX (fun W' hs => VK hs f p _ (by omega) (by omega))
 have j0 := KQ.c 0 _ rfl
 have jf0 := KQ.f 0
 have j1 := KQ.c 1 _ rfl
 have jf1 := KQ.f 1
 have j2 := KQ.c 2 _ rfl
 have jf2 := KQ.f 2
 clear KQ BQ hn h f p
 go_enter Tryz.func120, Tryz.ntmps120
 go_upto_region 1 with fail
 rw [<- hQ]
 clear hQ
 go_wp2_with fail
 refine (CT.out Q (Below.refl _ Q)).mono ?_; rintro e w1 ⟨rfl, hb⟩
 have H1 := zdX (H1.out.below hb)
 have SC := zdX (SC.out w1 H1.out)
 clear CT hb j0 j1 j2 jf0 jf1 jf2
 go_wp2_with fail
 refine SC.out.mono ?_; rintro e w2 ⟨⟨v, rfl⟩, h1⟩
 have H2 := zdX h1
 clear h1
 clear SC
 go_wp2_with fail
 go_end0
 exact ⟨⟨_, rfl⟩, H2.out⟩
set_option maxHeartbeats 4000000 in
set_option maxRecDepth 100000 in
theorem zcV (h : St w0 F0 tb t W) (f : Fine t) (p : zm t) (n : Nums) (A : Option Addr) (c : Nat) (hn : NumAt W n A c) : Calls Tryz.prog 121 #[.pointer (some ⟨tb, 0, none⟩), numV n A c] W (Vd w0 F0 tb (zT t (-(n.count 0)))) := by
 obtain ⟨Q, hQ⟩ : ∃ Q, Q = W.alloc (.cells [.int .u8 n.prefix_, .slice A n.list.length c, .bool n.void].toArray 129) := ⟨_, rfl⟩
 have BQ : Below W.heap.size W Q := by rw [hQ]; exact (Below.refl _ W).alloc zdZ _
 have KQ : Bk Q W.heap.size [.int .u8 n.prefix_, .slice A n.list.length c, .bool n.void] 129 := by rw [hQ]; exact Bk.new W _ _
 obtain ⟨g0, g1, g2, g3⟩ := f.pg p
 have H1 := zdX (h.below BQ)
 have KH := zdX KQ
 have CT := zdX (fun W' (hb : Below Q.heap.size Q W') => jx n A c 0 W' ((hn.below BQ).below hb))
 obtain ⟨z0, z1⟩ := ja hn 0
 unfold numV at CT ⊢
 generalize n.count 0 = z at *
 have m1 := zdY (t.bot + 1) (by omega)
 have m2 := zdY (-z) (by omega)
 have SC : Hid (∀ W', St w0 F0 tb t W' -> Calls Tryz.prog 99 #[.pointer (some ⟨tb, 0, none⟩), .int .i64 (-z)] W' (Vd w0 F0 tb (zT t (-z)))) := zdX (fun W' hs => ZF hs f p _ (by omega) (by omega))
 have j0 := KQ.c 0 _ rfl
 have jf0 := KQ.f 0
 have j1 := KQ.c 1 _ rfl
 have jf1 := KQ.f 1
 have j2 := KQ.c 2 _ rfl
 have jf2 := KQ.f 2
 clear KQ BQ hn h f p
 go_enter Tryz.func121, Tryz.ntmps121
 go_upto_region 1 with fail
 rw [<- hQ]
 clear hQ
 go_wp2_with fail
 refine (CT.out Q (Below.refl _ Q)).mono ?_; rintro e w1 ⟨rfl, hb⟩
 have H1 := zdX (H1.out.below hb)
 have SC := zdX (SC.out w1 H1.out)
 clear CT hb j0 j1 j2 jf0 jf1 jf2
 go_wp2_with fail
 refine SC.out.mono ?_; rintro e w2 ⟨⟨v, rfl⟩, h1⟩
 have H2 := zdX h1
 clear h1
 clear SC
 go_wp2_with fail
 go_end0
 exact ⟨⟨_, rfl⟩, H2.out⟩
set_option maxHeartbeats 4000000 in
set_option maxRecDepth 100000 in
theorem zcW (h : St w0 F0 tb t W) (f : Fine t) (p : zm t) (n : Nums) (A : Option Addr) (c : Nat) (hn : NumAt W n A c) : Calls Tryz.prog 126 #[.pointer (some ⟨tb, 0, none⟩), numV n A c] W (Vd w0 F0 tb (zT t (n.count 0))) := by
 obtain ⟨Q, hQ⟩ : ∃ Q, Q = W.alloc (.cells [.int .u8 n.prefix_, .slice A n.list.length c, .bool n.void].toArray 129) := ⟨_, rfl⟩
 have BQ : Below W.heap.size W Q := by rw [hQ]; exact (Below.refl _ W).alloc zdZ _
 have KQ : Bk Q W.heap.size [.int .u8 n.prefix_, .slice A n.list.length c, .bool n.void] 129 := by rw [hQ]; exact Bk.new W _ _
 obtain ⟨g0, g1, g2, g3⟩ := f.pg p
 have H1 := zdX (h.below BQ)
 have KH := zdX KQ
 have CT := zdX (fun W' (hb : Below Q.heap.size Q W') => jx n A c 0 W' ((hn.below BQ).below hb))
 obtain ⟨z0, z1⟩ := ja hn 0
 unfold numV at CT ⊢
 generalize n.count 0 = z at *
 have m1 := zdY (t.bot + 1) (by omega)
 have m2 := zdY (-z) (by omega)
 have SC : Hid (∀ W', St w0 F0 tb t W' -> Calls Tryz.prog 99 #[.pointer (some ⟨tb, 0, none⟩), .int .i64 (z)] W' (Vd w0 F0 tb (zT t (z)))) := zdX (fun W' hs => ZF hs f p _ (by omega) (by omega))
 have j0 := KQ.c 0 _ rfl
 have jf0 := KQ.f 0
 have j1 := KQ.c 1 _ rfl
 have jf1 := KQ.f 1
 have j2 := KQ.c 2 _ rfl
 have jf2 := KQ.f 2
 clear KQ BQ hn h f p
 go_enter Tryz.func126, Tryz.ntmps126
 go_upto_region 1 with fail
 rw [<- hQ]
 clear hQ
 go_wp2_with fail
 refine (CT.out Q (Below.refl _ Q)).mono ?_; rintro e w1 ⟨rfl, hb⟩
 have H1 := zdX (H1.out.below hb)
 have SC := zdX (SC.out w1 H1.out)
 clear CT hb j0 j1 j2 jf0 jf1 jf2
 go_wp2_with fail
 refine SC.out.mono ?_; rintro e w2 ⟨⟨v, rfl⟩, h1⟩
 have H2 := zdX h1
 clear h1
 clear SC
 go_wp2_with fail
 go_end0
 exact ⟨⟨_, rfl⟩, H2.out⟩
set_option maxHeartbeats 4000000 in
set_option maxRecDepth 100000 in
theorem zcX (h : St w0 F0 tb t W) (f : Fine t) (p : zm t) (n : Nums) (A : Option Addr) (c : Nat) (hn : NumAt W n A c) : Calls Tryz.prog 122 #[.pointer (some ⟨tb, 0, none⟩), numV n A c] W (Vd w0 F0 tb (qh t t.top (t.bot + 1) (n.count 0))) := by
 obtain ⟨Q, hQ⟩ : ∃ Q, Q = W.alloc (.cells [.int .u8 n.prefix_, .slice A n.list.length c, .bool n.void].toArray 129) := ⟨_, rfl⟩
 have BQ : Below W.heap.size W Q := by rw [hQ]; exact (Below.refl _ W).alloc zdZ _
 have KQ : Bk Q W.heap.size [.int .u8 n.prefix_, .slice A n.list.length c, .bool n.void] 129 := by rw [hQ]; exact Bk.new W _ _
 obtain ⟨g0, g1, g2, g3⟩ := f.pg p
 have H1 := zdX (h.below BQ)
 have KH := zdX KQ
 have CT := zdX (fun W' (hb : Below Q.heap.size Q W') => jx n A c 0 W' ((hn.below BQ).below hb))
 obtain ⟨z0, z1⟩ := ja hn 0
 unfold numV at CT ⊢
 generalize n.count 0 = z at *
 have m1 := zdY (t.bot + 1) (by omega)
 have m2 := zdY (-z) (by omega)
 have SC : Hid (∀ W', St w0 F0 tb t W' -> Calls Tryz.prog 103 #[.pointer (some ⟨tb, 0, none⟩), .int .i64 t.top, .int .i64 (t.bot + 1), .int .i64 (z)] W' (Vd w0 F0 tb (qh t t.top (t.bot + 1) (z)))) := zdX (fun W' hs => vV hs f p _ _ _ g0 (by omega) (by omega) (by omega) (by omega))
 have j0 := fun d os => ((KQ).regrown d os).c 0 _ rfl
 have j1 := fun d os => ((KQ).regrown d os).c 1 _ rfl
 have j2 := fun d os => ((KQ).regrown d os).c 2 _ rfl
 clear KQ BQ hn h f p
 go_enter Tryz.func122, Tryz.ntmps122
 go_upto_region 1 with fail
 rw [<- hQ]
 clear hQ
 obtain ⟨L1, B1⟩ := H1.out.bk
 dsimp only [trmV, setX, setY] at B1
 have k21 := fun d os => (B1.regrown d os).c 21 _ rfl
 have k22 := fun d os => (B1.regrown d os).c 22 _ rfl
 clear B1
 refine zg 12 (by kernel_rfl) (by kernel_rfl) ?_
 simp only [zd0, zd1, zd2, zd3]
 repeat (first | go_big_quiet_step (exact qj CT.out _ _) | quiet_step (exact qj CT.out _ _))
 refine wpQuiet_nil ?_
 intro _ hw'
 obtain ⟨⟨dq, osq⟩, hw''⟩ := hw'
 subst hw''
 have H1 := zdX (H1.out.below (below_regrown Q dq osq))
 clear k21 k22
 generalize grow (redrawn Q dq) osq = W1 at *
 have SC := zdX (SC.out W1 H1.out)
 clear CT j0 j1 j2
 go_wp2_with fail
 refine SC.out.mono ?_; rintro e w2 ⟨⟨v, rfl⟩, h1⟩
 have H2 := zdX h1
 clear h1
 clear SC
 go_wp2_with fail
 go_end0
 exact ⟨⟨_, rfl⟩, H2.out⟩
set_option maxHeartbeats 4000000 in
set_option maxRecDepth 100000 in
theorem zcY (h : St w0 F0 tb t W) (f : Fine t) (p : zm t) (n : Nums) (A : Option Addr) (c : Nat) (hn : NumAt W n A c) : Calls Tryz.prog 123 #[.pointer (some ⟨tb, 0, none⟩), numV n A c] W (Vd w0 F0 tb (qh t t.top (t.bot + 1) (-(n.count 0)))) := by
 obtain ⟨Q, hQ⟩ : ∃ Q, Q = W.alloc (.cells [.int .u8 n.prefix_, .slice A n.list.length c, .bool n.void].toArray 129) := ⟨_, rfl⟩
 have BQ : Below W.heap.size W Q := by rw [hQ]; exact (Below.refl _ W).alloc zdZ _
 have KQ : Bk Q W.heap.size [.int .u8 n.prefix_, .slice A n.list.length c, .bool n.void] 129 := by rw [hQ]; exact Bk.new W _ _
 obtain ⟨g0, g1, g2, g3⟩ := f.pg p
 have H1 := zdX (h.below BQ)
 have KH := zdX KQ
 have CT := zdX (fun W' (hb : Below Q.heap.size Q W') => jx n A c 0 W' ((hn.below BQ).below hb))
 obtain ⟨z0, z1⟩ := ja hn 0
 unfold numV at CT ⊢
 generalize n.count 0 = z at *
 have m1 := zdY (t.bot + 1) (by omega)
 have m2 := zdY (-z) (by omega)
 have SC : Hid (∀ W', St w0 F0 tb t W' -> Calls Tryz.prog 103 #[.pointer (some ⟨tb, 0, none⟩), .int .i64 t.top, .int .i64 (t.bot + 1), .int .i64 (-z)] W' (Vd w0 F0 tb (qh t t.top (t.bot + 1) (-z)))) := zdX (fun W' hs => vV hs f p _ _ _ g0 (by omega) (by omega) (by omega) (by omega))
 have j0 := fun d os => ((KQ).regrown d os).c 0 _ rfl
 have j1 := fun d os => ((KQ).regrown d os).c 1 _ rfl
 have j2 := fun d os => ((KQ).regrown d os).c 2 _ rfl
 clear KQ BQ hn h f p
 go_enter Tryz.func123, Tryz.ntmps123
 go_upto_region 1 with fail
 rw [<- hQ]
 clear hQ
 obtain ⟨L1, B1⟩ := H1.out.bk
 dsimp only [trmV, setX, setY] at B1
 have k21 := fun d os => (B1.regrown d os).c 21 _ rfl
 have k22 := fun d os => (B1.regrown d os).c 22 _ rfl
 clear B1
 refine zg 13 (by kernel_rfl) (by kernel_rfl) ?_
 simp only [zd0, zd1, zd2, zd3]
 repeat (first | go_big_quiet_step (exact qj CT.out _ _) | quiet_step (exact qj CT.out _ _))
 refine wpQuiet_nil ?_
 intro _ hw'
 obtain ⟨⟨dq, osq⟩, hw''⟩ := hw'
 subst hw''
 have H1 := zdX (H1.out.below (below_regrown Q dq osq))
 clear k21 k22
 generalize grow (redrawn Q dq) osq = W1 at *
 have SC := zdX (SC.out W1 H1.out)
 clear CT j0 j1 j2
 go_wp2_with fail
 refine SC.out.mono ?_; rintro e w2 ⟨⟨v, rfl⟩, h1⟩
 have H2 := zdX h1
 clear h1
 clear SC
 go_wp2_with fail
 go_end0
 exact ⟨⟨_, rfl⟩, H2.out⟩
end
end
section
open Go Go.RowKit Go.Sort
section
variable {w0 : World} {F0 : List Nat} {tb : Nat} {t t' : Trm} {W W' : World} {L : Lay}
set_option maxHeartbeats 4000000 in
set_option maxRecDepth 100000 in
theorem t_tab (h : St w0 F0 tb t W) (f : Fine t) (p : zm t) (d : Int) (hd : d = 1 \/ d = -1) : Calls Tryz.prog 80 #[.pointer (some ⟨tb, 0, none⟩), .int .i64 d] W (Vd w0 F0 tb (tabT t d)) := by
 obtain ⟨F, hF⟩ : ∃ F, F = tabF t d (t.w.toNat + 1) t.cur.x := ⟨_, rfl⟩
 have e0 : tabT t d = setX t F := by unfold tabT; rw [hF]
 rw [e0]
 have HH : Hid (St w0 F0 tb (setX t t.cur.x) W) := zdX h
 have wp := p.1
 have w1 := f.w1
 have sl := f.sl
 have x0 : 0 <= t.cur.x /\ t.cur.x < t.w := by have := f.x0; have := f.cx; omega
 have HF : Hid (F = tabF t d (t.w.toNat + 1) t.cur.x) := zdX hF
 clear h f p e0 hF
 go_enter Tryz.func80, Tryz.ntmps80
 go_wp2_with fail
 go_loopw [] (fun wr => ∃ (x : Int) (k : Nat), 0 <= x /\ x < t.w /\ Hid (F = tabF t d (k + 1) x) /\ (if 0 < d then t.w - x else x + 1) <= k /\ Hid (St w0 F0 tb (setX t x) wr)) (fun wr => (if 0 < d then t.w - xOf wr tb else xOf wr tb).toNat)
 case atStart =>
  refine ⟨t.cur.x, t.w.toNat, x0.1, x0.2, HF, ?_, HH⟩
  split <;> omega
 case round =>
  obtain ⟨x, k, a0, a1, e0, hk, hr⟩ := hrel
  clear HH HF x0
  have xw := zdY (x + d) (by omega)
  have ef : Hid (F = if x + d < 0 \/ t.w <= x + d then x else if t.stops.getD (x + d).toNat false = true then x + d else tabF t d k (x + d)) := e0
  have XO := zdX hr.out.xOf
  clear e0
  obtain ⟨L1, B1⟩ := hr.out.bk
  dsimp only [trmV, setX, setY] at B1
  have k0 := B1.c 0 _ rfl
  have kf0 := B1.f 0
  have k3 := B1.c 3 _ rfl
  have kf3 := B1.f 3
  clear B1
  by_cases c1 : x + d < 0
  ·have ee : F = x := by have := ef.out; rw [if_pos (Or.inl c1)] at this; exact this
   subst ee
   clear ef hk
   go_wp2_with fail
   go_end0
   exact ⟨⟨_, rfl⟩, hr.out⟩
  by_cases c2 : t.w <= x + d
  ·have ee : F = x := by have := ef.out; rw [if_pos (Or.inr c2)] at this; exact this
   subst ee
   clear ef hk
   go_wp2_with fail
   go_end0
   exact ⟨⟨_, rfl⟩, hr.out⟩
  have e1 : Hid (F = if t.stops.getD (x + d).toNat false = true then x + d else tabF t d k (x + d)) := zdX (by have := ef.out; rw [if_neg (by omega)] at this; exact this)
  clear ef
  have hm : (if 0 < d then t.w - (x + d) else x + d + 1) <= (k - 1 : Nat) /\ 1 <= k /\ (if 0 < d then t.w - (x + d) else x + d).toNat < (if 0 < d then t.w - x else x).toNat := by
   rcases hd with rfl | rfl
   ·simp only [if_pos (show (0 : Int) < 1 by decide)] at hk ⊢; omega
   ·simp only [if_neg (show ¬ (0 : Int) < -1 by decide)] at hk ⊢; omega
  have HM := zdX hm
  clear hm hk
  obtain ⟨X, eX⟩ : ∃ X : Nat, x + d = (X : Int) := ⟨(x + d).toNat, by omega⟩
  have EX := zdX eX
  have hX : (X : Int) < t.w := by omega
  have hX2 : X < t.stops.length := by omega
  have H2 := zdX (hr.out.setX (X : Int))
  clear eX
  go_upto_region 2 with fail
  rw [EX.out]
  go_upto_region 3 with fail
  obtain ⟨V, hV⟩ : ∃ V, V = wr.setCell ⟨tb, 3, none⟩ (.int .i64 (X : Int)) := ⟨_, rfl⟩
  rw [<- hV] at H2 ⊢
  clear hV k0 kf0 k3 kf3
  obtain ⟨L1, g, cap, B1, ec, hc, ho, _⟩ := H2.out.rowS (by show 0 < t.stops.length; omega)
  have k23 := B1.c 23 _ rfl
  rw [ec] at k23
  have y := (ho.cellAt X (by show X < t.stops.length * 1; omega)).trans (Jk (l := t.stops) hX2)
  dsimp only [setX] at k23 hc
  clear B1 ec ho
  have XV := zdX H2.out.xOf
  cases es : t.stops.getD X false with
  | true =>
   rw [es] at y
   go_wp2_with fail
   go_end0
   refine ⟨⟨_, rfl⟩, ?_⟩
   have := e1.out
   rw [EX.out, show ((X : Int)).toNat = X by omega, if_pos es] at this
   rw [this]
   exact H2.out
  | false =>
   rw [es] at y
   go_wp2_with fail
   go_roundw
   case rel =>
    refine ⟨X, k - 1, by omega, hX, zdX ?_, ?_, H2⟩
    ·have := e1.out
     rw [EX.out, show ((X : Int)).toNat = X by omega, if_neg (by rw [es]; decide)] at this
     rw [show k - 1 + 1 = k by have := HM.out.2.1; omega]
     exact this
    ·have := HM.out.1
     rw [EX.out] at this
     exact this
   case measure =>
    have a := XO.out
    have b := XV.out
    have c := HM.out.2.2
    rw [EX.out] at c
    rw [a, b]
    exact c
theorem Jo (t : Trm) (d : Int) : ∀ k, (jC t d k).w = t.w /\ (jC t d k).h = t.h
 | 0 => ⟨rfl, rfl⟩
 | k + 1 => Jo t d k
set_option maxHeartbeats 4000000 in
set_option maxRecDepth 100000 in
theorem t_tabs (h : St w0 F0 tb t W) (f : Fine t) (p : zm t) (n : Nums) (A : Option Addr) (c : Nat) (hn : NumAt W n A c) : Calls Tryz.prog 116 #[.pointer (some ⟨tb, 0, none⟩), numV n A c] W (Vd w0 F0 tb (jC t 1 (n.count 0).toNat)) := by
 obtain ⟨Q, hQ⟩ : ∃ Q, Q = W.alloc (.cells [.int .u8 n.prefix_, .slice A n.list.length c, .bool n.void].toArray 129) := ⟨_, rfl⟩
 have BQ : Below W.heap.size W Q := by rw [hQ]; exact (Below.refl _ W).alloc zdZ _
 have KQ : Bk Q W.heap.size [.int .u8 n.prefix_, .slice A n.list.length c, .bool n.void] 129 := by rw [hQ]; exact Bk.new W _ _
 have HQ := zdX (h.below BQ)
 have CT := zdX (jx n A c 0 Q (hn.below BQ))
 obtain ⟨z0, z1⟩ := ja hn 0
 obtain ⟨Z, eZ⟩ : ∃ Z : Nat, n.count 0 = (Z : Int) := ⟨(n.count 0).toNat, by omega⟩
 rw [eZ] at CT z0 z1 ⊢
 have hZ : ((Z : Int)).toNat = Z := by omega
 rw [hZ]
 have j0 := KQ.c 0 _ rfl
 have jf0 := KQ.f 0
 have j1 := KQ.c 1 _ rfl
 have jf1 := KQ.f 1
 have j2 := KQ.c 2 _ rfl
 have jf2 := KQ.f 2
 have FI := zdX f
 have SO := zdX p
 unfold numV at CT ⊢
 clear KQ BQ h hn f p eZ hZ
 go_enter Tryz.func116, Tryz.ntmps116
 go_upto_region 1 with fail
 rw [<- hQ]
 clear hQ
 go_wp2_with fail
 refine CT.out.mono ?_; rintro e w1 ⟨rfl, hb⟩
 have H1 : Hid (St w0 F0 tb (jC t 1 0) w1) := zdX (HQ.out.below hb)
 clear CT HQ hb j0 j1 j2 jf0 jf1 jf2
 go_wp2_with fail
 go_loopw [6] (fun i wr => ∃ k : Nat, k <= Z /\ i = .int .i64 (k : Int) /\ Hid (St w0 F0 tb (jC t 1 k) wr)) (fun i _ => Z - (intOf i).toNat)
 case atStart => exact ⟨0, Nat.zero_le _, rfl, H1⟩
 case round =>
  obtain ⟨k, hk, rfl, hr⟩ := hrel
  clear H1
  by_cases lt : k < Z
  ·have ts := Jo t 1 k
   have CT := zdX (t_tab hr.out (Zn FI.out 1 k) (by unfold zm; rw [ts.1, ts.2]; exact SO.out) 1 (by decide))
   clear hr ts
   go_wp2_with fail
   refine CT.out.mono ?_; rintro e w2 ⟨⟨v, rfl⟩, h1⟩
   have H2 := zdX h1
   clear h1
   clear CT
   go_wp2_with fail
   go_roundw
   case rel => exact ⟨k + 1, by omega, by go_num, H2⟩
   case measure => simp [intOf]; omega
  ·have e : k = Z := by omega
   subst e
   go_wp2_with fail
   go_end0
   exact ⟨⟨_, rfl⟩, hr.out⟩
set_option maxHeartbeats 4000000 in
set_option maxRecDepth 100000 in
theorem zcZ (h : St w0 F0 tb t W) (f : Fine t) (p : zm t) (n : Nums) (A : Option Addr) (c : Nat) (hn : NumAt W n A c) : Calls Tryz.prog 125 #[.pointer (some ⟨tb, 0, none⟩), numV n A c] W (Vd w0 F0 tb (jC t (-1) (n.count 0).toNat)) := by
 obtain ⟨Q, hQ⟩ : ∃ Q, Q = W.alloc (.cells [.int .u8 n.prefix_, .slice A n.list.length c, .bool n.void].toArray 129) := ⟨_, rfl⟩
 have BQ : Below W.heap.size W Q := by rw [hQ]; exact (Below.refl _ W).alloc zdZ _
 have KQ : Bk Q W.heap.size [.int .u8 n.prefix_, .slice A n.list.length c, .bool n.void] 129 := by rw [hQ]; exact Bk.new W _ _
 have HQ := zdX (h.below BQ)
 have CT := zdX (jx n A c 0 Q (hn.below BQ))
 obtain ⟨z0, z1⟩ := ja hn 0
 obtain ⟨Z, eZ⟩ : ∃ Z : Nat, n.count 0 = (Z : Int) := ⟨(n.count 0).toNat, by omega⟩
 rw [eZ] at CT z0 z1 ⊢
 have hZ : ((Z : Int)).toNat = Z := by omega
 rw [hZ]
 have j0 := KQ.c 0 _ rfl
 have jf0 := KQ.f 0
 have j1 := KQ.c 1 _ rfl
 have jf1 := KQ.f 1
 have j2 := KQ.c 2 _ rfl
 have jf2 := KQ.f 2
 have FI := zdX f
 have SO := zdX p
 unfold numV at CT ⊢
 clear KQ BQ h hn f p eZ hZ
 go_enter Tryz.func125, Tryz.ntmps125
 go_upto_region 1 with fail
 rw [<- hQ]
 clear hQ
 go_wp2_with fail
 refine CT.out.mono ?_; rintro e w1 ⟨rfl, hb⟩
 have H1 : Hid (St w0 F0 tb (jC t (-1) 0) w1) := zdX (HQ.out.below hb)
 clear CT HQ hb j0 j1 j2 jf0 jf1 jf2
 go_wp2_with fail
 go_loopw [6] (fun i wr => ∃ k : Nat, k <= Z /\ i = .int .i64 (k : Int) /\ Hid (St w0 F0 tb (jC t (-1) k) wr)) (fun i _ => Z - (intOf i).toNat)
 case atStart => exact ⟨0, Nat.zero_le _, rfl, H1⟩
 case round =>
  obtain ⟨k, hk, rfl, hr⟩ := hrel
  clear H1
  by_cases lt : k < Z
  ·have ts := Jo t (-1) k
   have CT := zdX (t_tab hr.out (Zn FI.out (-1) k) (by unfold zm; rw [ts.1, ts.2]; exact SO.out) (-1) (by decide))
   clear hr ts
   go_wp2_with fail
   refine CT.out.mono ?_; rintro e w2 ⟨⟨v, rfl⟩, h1⟩
   have H2 := zdX h1
   clear h1
   clear CT
   go_wp2_with fail
   go_roundw
   case rel => exact ⟨k + 1, by omega, by go_num, H2⟩
   case measure => simp [intOf]; omega
  ·have e : k = Z := by omega
   subst e
   go_wp2_with fail
   go_end0
   exact ⟨⟨_, rfl⟩, hr.out⟩
end
end
end Go.Proofs.YtmaofighbpnbiaaGreatDoor
