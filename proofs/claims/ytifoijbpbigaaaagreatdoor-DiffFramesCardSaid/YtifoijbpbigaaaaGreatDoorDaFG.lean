/- What lies below tapes (kept of earlier texts: DgUc, RaO, DgJf, RaR). -/
import Derived.Test.YtifoijbpbigaaaaGreatDoorDaFF
import Derived.LoopTactic
import Derived.RangeFuncBox
import Derived.Lib.AppendStr
import Derived.RegionTactic
import Derived.ChangeAlike
set_option linter.unusedVariables false
set_option linter.unusedSimpArgs false
namespace Go.Proofs.YtifoijbpbigaaaaGreatDoor
section
open Go.RowKit Go.Sort
theorem jS {α : Sort _} {tx ty : ByteArray} {wx wy fx fy gx gy : Int} {ax ay : B8} (u v : α) (h : ¬ (⟨tx, wx, ⟨fx, gx, ax⟩⟩ : Cel) = ⟨ty, wy, ⟨fy, gy, ay⟩⟩) : (if tx.toList = ty.toList then if wx = wy then if fx = fy then if gx = gy then if bI ax = bI ay then u else v else v else v else v else v) = v := by
 by_cases c1 : tx.toList = ty.toList
 ·rw [if_pos c1]
  by_cases c2 : wx = wy
  ·rw [if_pos c2]
   by_cases c3 : fx = fy
   ·rw [if_pos c3]
    by_cases c4 : gx = gy
    ·rw [if_pos c4]
     by_cases c5 : bI ax = bI ay
     ·exfalso; apply h
      have c1 : tx = ty := by
       rw [ByteArray.toList_eq, ByteArray.toList_eq] at c1
       exact ByteArray.ext (Array.toList_inj.1 c1)
      rw [c1, c2, c3, c4, jV c5]
     ·rw [if_neg c5]
    ·rw [if_neg c4]
   ·rw [if_neg c3]
  ·rw [if_neg c2]
 ·rw [if_neg c1]
theorem vG {α : Type} {l r : List α} {y y' : α} {k : Nat} (h : l.drop k = y :: y' :: r) : l.drop (k + 2) = r := by
 rw [<- List.drop_drop, h]; rfl
theorem xS {α : Type} {l r : List α} {y : α} {k : Nat} (h : l.drop k = y :: r) : l.drop (k + 1) = r := by
 rw [<- List.drop_drop, h]; rfl
theorem kN {α : Type} {l r : List α} {y : α} {k : Nat} (h : l.drop k = y :: r) : ∃ hk : k < l.length, l[k] = y := by
 have hk : k < l.length := by
  rcases Nat.lt_or_ge k l.length with z | z
  ·exact z
  ·rw [List.drop_eq_nil_of_le z] at h; cases h
 rw [List.drop_eq_getElem_cons hk] at h
 exact ⟨hk, (List.cons.inj h).1⟩
set_option maxHeartbeats 16000000 in
set_option maxRecDepth 100000 in
theorem QI (f : Nat) (caps : Array Value) (hE : ∀ args w, (callFunc f args).run Tryz.prog w = .ok (.enter f args) w) (J : List (Nat × Nat) -> World -> Prop) (A1 A2 : Option Addr) (c1 c2 : Nat) (a b : List Cel) (hlen : a.length = b.length) (hN : b.length <= 1000000000000) (hrow : rowR b = true)
  (hJ : ∀ pre (i n : Nat) W, J pre W -> (pre ++ [(i, n)]) <+: zg 0 a b -> (n = 1 \/ n = 2) -> Calls Tryz.prog f (#[.int .i64 i, .int .i64 n] ++ caps) W fun e W' => (∃ v, e = .returned v) /\ J (pre ++ [(i, n)]) W')
  (hs : ∀ pre W, J pre W -> Sees W W.heap.size A1 (zc a) /\ Sees W W.heap.size A2 (zc b)) (hd : ∀ pre W W', J pre W -> Below W.heap.size W W' -> J pre W') (w : World) (h0 : J [] w) :
  Calls Tryz.prog 29 #[.slice A1 a.length c1, .slice A2 b.length c2, .func (.func f) #[] caps] w fun e w' => (∃ v, e = .returned v) /\ J (zg 0 a b) w' := by
 rw [hlen]
 obtain ⟨N, hNN⟩ : ∃ N, N = b.length := ⟨_, rfl⟩
 rw [<- hNN] at hN ⊢
 have HN := Vd hNN
 have HL := Vd hlen
 have HR := Vd hrow
 clear hNN hlen hrow
 go_enter Tryz.func29, Tryz.ntmps29
 go_wp2_with fail
 go_loopw [6, 7] (fun i n7 wr => ∃ (k : Nat) (pre : List (Nat × Nat)), k <= N /\ i = .int .i64 k /\ Hid (rowR (b.drop k) = true /\ zg 0 a b = pre ++ zg k (a.drop k) (b.drop k) /\ J pre wr)) (fun i _ _ => N - (intOf i).toNat)
 case atStart => exact ⟨0, [], Nat.zero_le _, rfl, Vd ⟨HR.out, rfl, h0⟩⟩
 case round =>
  obtain ⟨k, pre, hk, rfl, hr⟩ := hrel
  clear h0
  by_cases lt : k < N
  ·obtain ⟨r1, r2, r3⟩ := hr.out
   have SS := hs _ _ r3
   have JH := Vd r3
   have kb : k < b.length := by rw [<- HN.out]; exact lt
   have ka : k < a.length := by rw [HL.out]; exact kb
   obtain ⟨y, yr, hy⟩ : ∃ y yr, b.drop k = y :: yr := ⟨_, _, List.drop_eq_getElem_cons kb⟩
   obtain ⟨x, xr, hx⟩ : ∃ x xr, a.drop k = x :: xr := ⟨_, _, List.drop_eq_getElem_cons ka⟩
   obtain ⟨_, ey⟩ := kN hy
   obtain ⟨_, ex⟩ := kN hx
   have ly : (y :: yr).length = N - k := by rw [<- hy, List.length_drop, <- HN.out]
   have lx : (x :: xr).length = N - k := by rw [<- hx, List.length_drop, HL.out, <- HN.out]
   obtain ⟨ad, rfl, ab, z0, z1, z2, z3, z4⟩ := ja SS.1 k ka
   obtain ⟨ae, rfl, bb, y0, y1, y2, y3, y4⟩ := ja SS.2 k kb
   rw [ex] at z0 z1 z2 z3 z4
   rw [ey] at y0 y1 y2 y3 y4
   rw [hy] at r1
   rw [hx, hy] at r2
   rcases vj r1 with ⟨w2, y', yr', e', w0, rr⟩ | ⟨w1, rr⟩
   ·subst e'
    obtain ⟨x', xr', e'⟩ : ∃ x' xr', xr = x' :: xr' := by
     cases xr with
     | nil => simp at lx ly; omega
     | cons p q => exact ⟨p, q, rfl⟩
    subst e'
    have k1 : k + 1 < N := by simp at ly; omega
    have hy1 := xS hy
    have hx1 := xS hx
    obtain ⟨kb1, ey1⟩ := kN hy1
    obtain ⟨ka1, ex1⟩ := kN hx1
    obtain ⟨ad', e', _, s0, s1, s2, s3, s4⟩ := ja SS.1 (k + 1) ka1
    cases e'
    obtain ⟨ae', e', _, q0, q1, q2, q3, q4⟩ := ja SS.2 (k + 1) kb1
    cases e'
    rw [ex1] at s0 s1 s2 s3 s4
    rw [ey1] at q0 q1 q2 q3 q4
    rw [xh k x x' y y' xr' yr' w2] at r2
    have RR : Hid (rowR (b.drop (k + 2)) = true) := Vd (by rw [vG hy]; exact rr)
    have hX2 := vG hx
    have hY2 := vG hy
    rw [<- hX2, <- hY2] at r2
    have wk := Ve ((k : Int) + 1) (by omega)
    have wk0 : (0 : Int) <= (k : Int) + 1 := by omega
    have wk1 : ((k : Int) + 1).toNat = k + 1 := by omega
    have wk2 : (k : Int) + 1 < (N : Int) := by omega
    have R2 := Vd r2
    clear r1 r2 r3 rr SS hr ly lx hy hx hy1 hx1 ey ex ey1 ex1 hX2 hY2 kb ka kb1 ka1
    obtain ⟨ty, wy, ⟨fy, gy, ay⟩⟩ := y
    obtain ⟨tx, wx, ⟨fx, gx, ax⟩⟩ := x
    obtain ⟨ty', wy', ⟨fy', gy', ay'⟩⟩ := y'
    obtain ⟨tx', wx', ⟨fx', gx', ax'⟩⟩ := x'
    simp only at z0 z1 z2 z3 z4 y0 y1 y2 y3 y4 s0 s1 s2 s3 s4 q0 q1 q2 q3 q4 w2 w0
    subst w2 w0
    have y1h := y1
    go_upto_region 3 with fail
    clear y1h
    have z0 := fun d os => ((below_regrown wr d os).cell (p := ad.add (k * 5)) (by simp only [zj]; exact ab)).trans z0
    have z1 := fun d os => ((below_regrown wr d os).cell (p := ⟨(ad.add (k * 5)).block, (ad.add (k * 5)).off + 1, none⟩) (by simp only [zj]; exact ab)).trans z1
    have z2 := fun d os => ((below_regrown wr d os).cell (p := ⟨(ad.add (k * 5)).block, (ad.add (k * 5)).off + 2, none⟩) (by simp only [zj]; exact ab)).trans z2
    have z3 := fun d os => ((below_regrown wr d os).cell (p := ⟨(ad.add (k * 5)).block, (ad.add (k * 5)).off + 3, none⟩) (by simp only [zj]; exact ab)).trans z3
    have z4 := fun d os => ((below_regrown wr d os).cell (p := ⟨(ad.add (k * 5)).block, (ad.add (k * 5)).off + 4, none⟩) (by simp only [zj]; exact ab)).trans z4
    have y0 := fun d os => ((below_regrown wr d os).cell (p := ae.add (k * 5)) (by simp only [zj]; exact bb)).trans y0
    have y1 := fun d os => ((below_regrown wr d os).cell (p := ⟨(ae.add (k * 5)).block, (ae.add (k * 5)).off + 1, none⟩) (by simp only [zj]; exact bb)).trans y1
    have y2 := fun d os => ((below_regrown wr d os).cell (p := ⟨(ae.add (k * 5)).block, (ae.add (k * 5)).off + 2, none⟩) (by simp only [zj]; exact bb)).trans y2
    have y3 := fun d os => ((below_regrown wr d os).cell (p := ⟨(ae.add (k * 5)).block, (ae.add (k * 5)).off + 3, none⟩) (by simp only [zj]; exact bb)).trans y3
    have y4 := fun d os => ((below_regrown wr d os).cell (p := ⟨(ae.add (k * 5)).block, (ae.add (k * 5)).off + 4, none⟩) (by simp only [zj]; exact bb)).trans y4
    have s0 := fun d os => ((below_regrown wr d os).cell (p := ad.add ((k + 1) * 5)) (by simp only [zj]; exact ab)).trans s0
    have s1 := fun d os => ((below_regrown wr d os).cell (p := ⟨(ad.add ((k + 1) * 5)).block, (ad.add ((k + 1) * 5)).off + 1, none⟩) (by simp only [zj]; exact ab)).trans s1
    have s2 := fun d os => ((below_regrown wr d os).cell (p := ⟨(ad.add ((k + 1) * 5)).block, (ad.add ((k + 1) * 5)).off + 2, none⟩) (by simp only [zj]; exact ab)).trans s2
    have s3 := fun d os => ((below_regrown wr d os).cell (p := ⟨(ad.add ((k + 1) * 5)).block, (ad.add ((k + 1) * 5)).off + 3, none⟩) (by simp only [zj]; exact ab)).trans s3
    have s4 := fun d os => ((below_regrown wr d os).cell (p := ⟨(ad.add ((k + 1) * 5)).block, (ad.add ((k + 1) * 5)).off + 4, none⟩) (by simp only [zj]; exact ab)).trans s4
    have q0 := fun d os => ((below_regrown wr d os).cell (p := ae.add ((k + 1) * 5)) (by simp only [zj]; exact bb)).trans q0
    have q1 := fun d os => ((below_regrown wr d os).cell (p := ⟨(ae.add ((k + 1) * 5)).block, (ae.add ((k + 1) * 5)).off + 1, none⟩) (by simp only [zj]; exact bb)).trans q1
    have q2 := fun d os => ((below_regrown wr d os).cell (p := ⟨(ae.add ((k + 1) * 5)).block, (ae.add ((k + 1) * 5)).off + 2, none⟩) (by simp only [zj]; exact bb)).trans q2
    have q3 := fun d os => ((below_regrown wr d os).cell (p := ⟨(ae.add ((k + 1) * 5)).block, (ae.add ((k + 1) * 5)).off + 3, none⟩) (by simp only [zj]; exact bb)).trans q3
    have q4 := fun d os => ((below_regrown wr d os).cell (p := ⟨(ae.add ((k + 1) * 5)).block, (ae.add ((k + 1) * 5)).off + 4, none⟩) (by simp only [zj]; exact bb)).trans q4
    by_cases e1 : (⟨tx, wx, ⟨fx, gx, ax⟩⟩ : Cel) = ⟨ty, 2, ⟨fy, gy, ay⟩⟩
    ·by_cases e2 : (⟨tx', wx', ⟨fx', gx', ax'⟩⟩ : Cel) = ⟨ty', 0, ⟨fy', gy', ay'⟩⟩
     ·have DU : Hid (zg 0 a b = pre ++ zg (k + 2) (a.drop (k + 2)) (b.drop (k + 2))) := Vd (by rw [R2.out, if_pos ⟨e1, e2⟩, List.nil_append])
      injection e1 with a1 a2 a3; injection a3 with a3 a4 a5
      injection e2 with d1 d2 d3; injection d3 with d3 d4 d5
      subst a1 a2 a3 a4 a5 d1 d2 d3 d4 d5
      refine zn 25 [] [] (by kernel_rfl) (by kernel_rfl) (by kernel_rfl) (by intro t ht; cases ht) ?_
      simp only [Vg, Vh, Vi, Vj]
      repeat (refine ze (by rfl) (fun K hK => ?_); go_simp; first | (refine hK _ ?_; clear hK K) | (apply Exists.intro; refine ⟨fun _ => ?_, hK _ ?_⟩; (fail); clear hK K))
      refine zm ?_
      intro W5 vs5 hl hv
      have J5 := Vd (hd _ _ _ JH.out (zk.1 hl))
      clear hl hv z0 z1 z2 z3 z4 y0 y1 y2 y3 y4 s0 s1 s2 s3 s4 q0 q1 q2 q3 q4
      simp only [zd]
      go_wp2_with fail
      have NR : Hid (rowR (b.drop (k + 2)) = true /\ zg 0 a b = pre ++ zg (k + 2) (a.drop (k + 2)) (b.drop (k + 2)) /\ J pre W5) := Vd ⟨RR.out, DU.out, J5.out⟩
      go_roundw
      case rel => exact ⟨k + 2, _, by omega, by go_num, NR⟩
      case measure => simp [intOf]; omega
     ·have DU : Hid (zg 0 a b = pre ++ ([(k, 2)] ++ zg (k + 2) (a.drop (k + 2)) (b.drop (k + 2)))) := Vd (by rw [R2.out, if_neg (fun h => e2 h.2)])
      injection e1 with a1 a2 a3; injection a3 with a3 a4 a5
      subst a1 a2 a3 a4 a5
      refine zn 25 [] [] (by kernel_rfl) (by kernel_rfl) (by kernel_rfl) (by intro t ht; cases ht) ?_
      simp only [Vg, Vh, Vi, Vj]
      repeat (refine ze (by rfl) (fun K hK => ?_); go_simp; first | (refine hK _ ?_; clear hK K) | (apply Exists.intro; refine ⟨fun _ => ?_, hK _ ?_⟩; (fail); clear hK K))
      refine ze (by rfl) (fun K hK => ?_); go_simp
      refine ⟨.bool true, fun p => ?_, hK _ ?_⟩
      ·rw [jS _ _ e2]; exact ⟨rfl, rfl⟩
      clear hK K
      repeat (refine ze (by rfl) (fun K hK => ?_); go_simp; first | (refine hK _ ?_; clear hK K) | (apply Exists.intro; refine ⟨fun _ => ?_, hK _ ?_⟩; (fail); clear hK K))
      refine zm ?_
      intro W5 vs5 hl hv
      have J5 := Vd (hd _ _ _ JH.out (zk.1 hl))
      clear hl hv z0 z1 z2 z3 z4 y0 y1 y2 y3 y4 s0 s1 s2 s3 s4 q0 q1 q2 q3 q4
      simp only [zd]
      go_wp2_with fail
      refine (hJ _ k 2 W5 J5.out (by rw [DU.out]; exact ⟨zg (k + 2) (a.drop (k + 2)) (b.drop (k + 2)), by simp⟩) (by omega)).mono ?_; rintro e W6 ⟨⟨v, rfl⟩, hj6⟩
      have NR : Hid (rowR (b.drop (k + 2)) = true /\ zg 0 a b = (pre ++ [(k, 2)]) ++ zg (k + 2) (a.drop (k + 2)) (b.drop (k + 2)) /\ J (pre ++ [(k, 2)]) W6) := Vd ⟨RR.out, by rw [DU.out]; simp, hj6⟩
      clear hj6
      go_wp2_with fail
      go_roundw
      case rel => exact ⟨k + 2, _, by omega, by go_num, NR⟩
      case measure => simp [intOf]; omega
    ·have DU : Hid (zg 0 a b = pre ++ ([(k, 2)] ++ zg (k + 2) (a.drop (k + 2)) (b.drop (k + 2)))) := Vd (by rw [R2.out, if_neg (fun h => e1 h.1)])
     refine zn 25 [] [] (by kernel_rfl) (by kernel_rfl) (by kernel_rfl) (by intro t ht; cases ht) ?_
     simp only [Vg, Vh, Vi, Vj]
     repeat (refine ze (by rfl) (fun K hK => ?_); go_simp; first | (refine hK _ ?_; clear hK K) | (apply Exists.intro; refine ⟨fun _ => ?_, hK _ ?_⟩; (fail); clear hK K))
     refine ze (by rfl) (fun K hK => ?_); go_simp
     refine ⟨.bool true, fun p => ?_, hK _ ?_⟩
     ·rw [jS _ _ e1]; exact ⟨rfl, rfl⟩
     clear hK K
     repeat (refine ze (by rfl) (fun K hK => ?_); go_simp; first | (refine hK _ ?_; clear hK K) | (apply Exists.intro; refine ⟨fun _ => ?_, hK _ ?_⟩; (fail); clear hK K))
     refine zm ?_
     intro W5 vs5 hl hv
     have J5 := Vd (hd _ _ _ JH.out (zk.1 hl))
     clear hl hv z0 z1 z2 z3 z4 y0 y1 y2 y3 y4 s0 s1 s2 s3 s4 q0 q1 q2 q3 q4
     simp only [zd]
     go_wp2_with fail
     refine (hJ _ k 2 W5 J5.out (by rw [DU.out]; exact ⟨zg (k + 2) (a.drop (k + 2)) (b.drop (k + 2)), by simp⟩) (by omega)).mono ?_; rintro e W6 ⟨⟨v, rfl⟩, hj6⟩
     have NR : Hid (rowR (b.drop (k + 2)) = true /\ zg 0 a b = (pre ++ [(k, 2)]) ++ zg (k + 2) (a.drop (k + 2)) (b.drop (k + 2)) /\ J (pre ++ [(k, 2)]) W6) := Vd ⟨RR.out, by rw [DU.out]; simp, hj6⟩
     clear hj6
     go_wp2_with fail
     go_roundw
     case rel => exact ⟨k + 2, _, by omega, by go_num, NR⟩
     case measure => simp [intOf]; omega
   ·have ll : xr.length = yr.length := by simp at lx ly; omega
    rw [xi k x y xr yr (by rw [w1]; decide) ll] at r2
    have RR : Hid (rowR (b.drop (k + 1)) = true) := Vd (by rw [xS hy]; exact rr)
    have hX2 := xS hx
    have hY2 := xS hy
    rw [<- hX2, <- hY2] at r2
    have R2 := Vd r2
    clear r1 r2 r3 rr SS hr ly lx ll hy hx ey ex hX2 hY2 kb ka
    obtain ⟨ty, wy, ⟨fy, gy, ay⟩⟩ := y
    obtain ⟨tx, wx, ⟨fx, gx, ax⟩⟩ := x
    simp only at z0 z1 z2 z3 z4 y0 y1 y2 y3 y4 w1
    subst w1
    have y1h := y1
    go_upto_region 3 with fail
    clear y1h
    have z0 := fun d os => ((below_regrown wr d os).cell (p := ad.add (k * 5)) (by simp only [zj]; exact ab)).trans z0
    have z1 := fun d os => ((below_regrown wr d os).cell (p := ⟨(ad.add (k * 5)).block, (ad.add (k * 5)).off + 1, none⟩) (by simp only [zj]; exact ab)).trans z1
    have z2 := fun d os => ((below_regrown wr d os).cell (p := ⟨(ad.add (k * 5)).block, (ad.add (k * 5)).off + 2, none⟩) (by simp only [zj]; exact ab)).trans z2
    have z3 := fun d os => ((below_regrown wr d os).cell (p := ⟨(ad.add (k * 5)).block, (ad.add (k * 5)).off + 3, none⟩) (by simp only [zj]; exact ab)).trans z3
    have z4 := fun d os => ((below_regrown wr d os).cell (p := ⟨(ad.add (k * 5)).block, (ad.add (k * 5)).off + 4, none⟩) (by simp only [zj]; exact ab)).trans z4
    have y0 := fun d os => ((below_regrown wr d os).cell (p := ae.add (k * 5)) (by simp only [zj]; exact bb)).trans y0
    have y1 := fun d os => ((below_regrown wr d os).cell (p := ⟨(ae.add (k * 5)).block, (ae.add (k * 5)).off + 1, none⟩) (by simp only [zj]; exact bb)).trans y1
    have y2 := fun d os => ((below_regrown wr d os).cell (p := ⟨(ae.add (k * 5)).block, (ae.add (k * 5)).off + 2, none⟩) (by simp only [zj]; exact bb)).trans y2
    have y3 := fun d os => ((below_regrown wr d os).cell (p := ⟨(ae.add (k * 5)).block, (ae.add (k * 5)).off + 3, none⟩) (by simp only [zj]; exact bb)).trans y3
    have y4 := fun d os => ((below_regrown wr d os).cell (p := ⟨(ae.add (k * 5)).block, (ae.add (k * 5)).off + 4, none⟩) (by simp only [zj]; exact bb)).trans y4
    by_cases e1 : (⟨tx, wx, ⟨fx, gx, ax⟩⟩ : Cel) = ⟨ty, 1, ⟨fy, gy, ay⟩⟩
    ·have DU : Hid (zg 0 a b = pre ++ zg (k + 1) (a.drop (k + 1)) (b.drop (k + 1))) := Vd (by rw [R2.out, if_pos e1, List.nil_append])
     injection e1 with a1 a2 a3; injection a3 with a3 a4 a5
     subst a1 a2 a3 a4 a5
     refine zn 25 [] [] (by kernel_rfl) (by kernel_rfl) (by kernel_rfl) (by intro t ht; cases ht) ?_
     simp only [Vg, Vh, Vi, Vj]
     repeat (refine ze (by rfl) (fun K hK => ?_); go_simp; first | (refine hK _ ?_; clear hK K) | (apply Exists.intro; refine ⟨fun _ => ?_, hK _ ?_⟩; (fail); clear hK K))
     refine zm ?_
     intro W5 vs5 hl hv
     have J5 := Vd (hd _ _ _ JH.out (zk.1 hl))
     clear hl hv z0 z1 z2 z3 z4 y0 y1 y2 y3 y4
     simp only [zd]
     go_wp2_with fail
     have NR : Hid (rowR (b.drop (k + 1)) = true /\ zg 0 a b = pre ++ zg (k + 1) (a.drop (k + 1)) (b.drop (k + 1)) /\ J pre W5) := Vd ⟨RR.out, DU.out, J5.out⟩
     go_roundw
     case rel => exact ⟨k + 1, _, by omega, by go_num, NR⟩
     case measure => simp [intOf]; omega
    ·have DU : Hid (zg 0 a b = pre ++ ([(k, 1)] ++ zg (k + 1) (a.drop (k + 1)) (b.drop (k + 1)))) := Vd (by rw [R2.out, if_neg e1])
     refine zn 25 [] [] (by kernel_rfl) (by kernel_rfl) (by kernel_rfl) (by intro t ht; cases ht) ?_
     simp only [Vg, Vh, Vi, Vj]
     repeat (refine ze (by rfl) (fun K hK => ?_); go_simp; first | (refine hK _ ?_; clear hK K) | (apply Exists.intro; refine ⟨fun _ => ?_, hK _ ?_⟩; (fail); clear hK K))
     refine ze (by rfl) (fun K hK => ?_); go_simp
     refine ⟨.bool true, fun p => ?_, hK _ ?_⟩
     ·rw [jS _ _ e1]; exact ⟨rfl, rfl⟩
     clear hK K
     repeat (refine ze (by rfl) (fun K hK => ?_); go_simp; first | (refine hK _ ?_; clear hK K) | (apply Exists.intro; refine ⟨fun _ => ?_, hK _ ?_⟩; (fail); clear hK K))
     refine zm ?_
     intro W5 vs5 hl hv
     have J5 := Vd (hd _ _ _ JH.out (zk.1 hl))
     clear hl hv z0 z1 z2 z3 z4 y0 y1 y2 y3 y4
     simp only [zd]
     go_wp2_with fail
     refine (hJ _ k 1 W5 J5.out (by rw [DU.out]; exact ⟨zg (k + 1) (a.drop (k + 1)) (b.drop (k + 1)), by simp⟩) (by omega)).mono ?_; rintro e W6 ⟨⟨v, rfl⟩, hj6⟩
     have NR : Hid (rowR (b.drop (k + 1)) = true /\ zg 0 a b = (pre ++ [(k, 1)]) ++ zg (k + 1) (a.drop (k + 1)) (b.drop (k + 1)) /\ J (pre ++ [(k, 1)]) W6) := Vd ⟨RR.out, by rw [DU.out]; simp, hj6⟩
     clear hj6
     go_wp2_with fail
     go_roundw
     case rel => exact ⟨k + 1, _, by omega, by go_num, NR⟩
     case measure => simp [intOf]; omega
  ·have e : k = N := by omega
   subst e
   obtain ⟨r1, r2, r3⟩ := hr.out
   rw [show b.drop k = [] from List.drop_eq_nil_of_le (by rw [<- HN.out]; exact Vf), xg, List.append_nil] at r2
   have R := Vd (show J (zg 0 a b) wr by rw [r2]; exact r3)
   clear r1 r2 r3 hr
   go_wp2_with fail
   go_end0
   exact ⟨⟨_, rfl⟩, R.out⟩
end
section
open Go Go.RowKit Go.Sort
def upL (i n : Nat) : List Int := (List.range n).map fun k => ((i + k : Nat) : Int)
theorem upL_succ (i n : Nat) : upL i (n + 1) = upL i n ++ [((i + n : Nat) : Int)] := by simp [upL, List.range_succ]
theorem QJ (i n : Nat) : (upL i n).length = n := by simp [upL]
theorem QK (pre : List (Nat × Nat)) (i n : Nat) : chgL (pre ++ [(i, n)]) = chgL pre ++ upL i n := by rw [xj]; simp [chgL, upL]
def BoxRow (W : World) (n0 g : Nat) (l : List Int) : Prop := ∃ v, Boxed W g 38 v /\ W.ownsRow n0 3 1 v l.length (ints l)
theorem BoxRow.keep {W W' : World} {n0 g : Nat} {l : List Int} (h : BoxRow W n0 g l) (hb : Below W.heap.size W W') : BoxRow W' n0 g l := by
 obtain ⟨v, h1, h2⟩ := h
 exact ⟨v, (hb.block g h1.lt).trans h1, qg h2 hb⟩
set_option maxHeartbeats 8000000 in
set_option maxRecDepth 100000 in
theorem d_chg1 (n0 g : Nat) (l : List Int) (i n : Nat) (hn : n = 1 \/ n = 2) (hi : i <= 1000000000000) (hl : l.length <= 1000000000000) (w : World) (hr : BoxRow w n0 g l) (h0 : n0 <= w.heap.size) (hg : n0 <= g) :
  Calls Tryz.prog 30 #[.int .i64 i, .int .i64 n, .pointer (some ⟨g, 0, none⟩)] w fun e w' => (∃ v, e = .returned v) /\ BoxRow w' n0 g (l ++ upL i n) /\ Below n0 w w' := by
 obtain ⟨i0, hi0, hz0, hz1, hz2⟩ := info_parts xM
 have HR := Vd hr
 clear hr
 go_enter Tryz.func30, Tryz.ntmps30
 go_wp2_with fail
 go_loopw [5, 7] (fun _ j wr => ∃ k : Nat, k <= n /\ j = .int .i64 k /\ Hid (BoxRow wr n0 g (l ++ upL i k) /\ Below n0 w wr /\ n0 <= wr.heap.size)) (fun _ j _ => n - (intOf j).toNat)
 case atStart => exact ⟨0, Nat.zero_le _, rfl, Vd ⟨by simpa [upL] using HR.out, Below.refl _ _, h0⟩⟩
 case round =>
  obtain ⟨k, hk, rfl, hq⟩ := hrel
  clear h0
  by_cases lt : k < n
  ·obtain ⟨⟨v, hv, hrow⟩, hb, hsz⟩ := hq.out
   have cO := hv.cell
   have HB := Vd hb
   have k2 : k <= 1 := by omega
   have len : (l ++ upL i k).length = l.length + k := by rw [List.length_append, QJ]
   have NX : Hid (ints (l ++ upL i k) ++ [.int .i64 ((i : Int) + (k : Int))] = ints (l ++ upL i (k + 1))) := Vd (by
    rw [upL_succ, <- List.append_assoc]
    simp [ints])
   have LX : Hid (l.length + k + 1 = (l ++ upL i (k + 1)).length) := Vd (by rw [List.length_append, QJ]; omega)
   rw [len] at hrow
   generalize l.length = m at *
   clear hb hq len
   go_wp2_with (at_builtin; refine wpList_append_own _ rfl (.tmp 10) (.tmp 14) 38 rfl n0 3 i0 (.int .i64 0) 1 8 Tryz.underlying38 hi0 hz0 hz1 hz2 rfl (by decide) _ (m + k) _ rfl (hrow.alloc _) ⟨wr.heap.size, 0, none⟩ 1 1 [.int .i64 ((i : Int) + (k : Int))] rfl rfl (qL wr _ _) (by simp [Value.oneCell']) (by unfold maxLen; omega) (by omega) (by simp; omega) ?_; intro v' w3 hown' hgrow _; obtain ⟨g', cap', rfl⟩ := ownsRow_succ hown'; obtain ⟨hv1, hv2, hr2, hk2, hb2⟩ := hv.appended (show 38 ≠ 3 by decide) hrow hsz hg hown' hgrow; have hc1 := hv1.cell; have hf1 := hv1.frozen)
   exact ⟨⟨k + 1, by omega, by go_num, Vd ⟨⟨_, hv2, by rw [<- LX.out, <- NX.out]; exact hr2⟩, HB.out.trans hb2, Nat.le_trans hsz hb2.size⟩⟩, by simp [intOf]; omega⟩
  ·have e : k = n := by omega
   subst e
   obtain ⟨h1, h2, h3⟩ := hq.out
   have H1 := Vd h1
   have H2 := Vd h2
   clear h1 h2 h3 hq
   go_wp2_with fail
   go_end0
   exact ⟨⟨_, rfl⟩, H1.out, H2.out⟩
theorem chg_len (l : List Cel) (h : rowR l = true) : ∀ i k, k.length = l.length -> (chgL (zg i k l)).length <= l.length :=
 xf (P := fun l => ∀ i k, k.length = l.length -> (chgL (zg i k l)).length <= l.length)
  (fun i k _ => by rw [xg]; exact Vf)
  (fun a l s _ q i k e => by
   cases k with
   | nil => cases e
   | cons b k =>
    simp only [List.length_cons, Nat.add_right_cancel_iff] at e
    rw [xi i b a k l (by rw [(jL s).1]; decide) e, xj, List.length_append]
    have q1 := q (i + 1) k e
    simp only [List.length_cons]
    split
    ·simp [chgL] at *; omega
    ·rw [ZU]; simp; omega)
  (fun a b l p _ q i k e => by
   cases k with
   | nil => cases e
   | cons c k =>
    cases k with
    | nil => cases e
    | cons d k =>
     simp only [List.length_cons, Nat.add_right_cancel_iff] at e
     rw [xh i c d a b k l (qY p).1, xj, List.length_append]
     have q1 := q (i + 2) k e
     simp only [List.length_cons]
     split
     ·simp [chgL] at *; omega
     ·rw [ZV]; simp; omega)
  l.length l Vf h
theorem chg_pre {a b : List Cel} (h : rowR b = true) (e : a.length = b.length) {pre : List (Nat × Nat)} {i n : Nat} (hp : (pre ++ [(i, n)]) <+: zg 0 a b) (hn : n = 1 \/ n = 2) : (chgL pre).length <= b.length /\ i + n <= b.length := by
 obtain ⟨r, hr⟩ := hp
 have h1 := chg_len b h 0 a e
 have h2 := (Xa b h 0 a e).1
 rw [<- hr, xj, QK] at h1 h2
 refine ⟨by simp only [List.length_append] at h1; omega, ?_⟩
 have h3 := h2 (((i + (n - 1) : Nat)) : Int) (by
  refine List.mem_append_left _ (List.mem_append_right _ ?_)
  unfold upL
  exact List.mem_map.2 ⟨n - 1, List.mem_range.2 (by omega), rfl⟩)
 omega
def js (a b : Scr) : Int := if zi a = false \/ zi b = false then 180 else if a.w ≠ b.w \/ a.h ≠ b.h then 5 else 0
def jF (a b : Scr) : List Int := if js a b = 0 then chgL (zg 0 a.cells b.cells) else []
structure ScrAt (w : World) (B : Nat) (s : Scr) (A : Option Addr) (c : Nat) : Prop where
 cap : s.cells.length <= c
 nil : A = none -> c = 0
 len : s.cells.length <= 1000000000000
 ok : ∀ x ∈ s.cells, okC x
 sees : Sees w B A (zc s.cells)
theorem ScrAt.below {w w' : World} {B : Nat} {s : Scr} {A : Option Addr} {c : Nat} (h : ScrAt w B s A c) (hb : Below B w w') : ScrAt w' B s A c := ⟨h.cap, h.nil, h.len, h.ok, h.sees.below hb Vf⟩
theorem ScrAt.more {w : World} {B B' : Nat} {s : Scr} {A : Option Addr} {c : Nat} (h : ScrAt w B s A c) (hb : B <= B') : ScrAt w B' s A c := ⟨h.cap, h.nil, h.len, h.ok, h.sees.more hb⟩
theorem QL (s : Scr) (A : Option Addr) (c : Nat) (w : World) (h : ScrAt w w.heap.size s A c) : Calls Tryz.prog 23 #[scrV s A c] w fun e w' => e = .returned (.bool (zi s)) /\ Below w.heap.size w w' :=
 vz s A c h.cap h.nil h.len h.ok w h.sees
set_option maxHeartbeats 16000000 in
set_option maxRecDepth 100000 in
theorem XY (a b : Scr) (A1 A2 : Option Addr) (c1 c2 : Nat) (w : World) (ha : ScrAt w w.heap.size a A1 c1) (hb : ScrAt w w.heap.size b A2 c2) :
  Calls Tryz.prog 15 #[scrV a A1 c1, scrV b A2 c2] w fun e w' => ∃ v, e = .returned (.tuple #[v, .int .i64 (js a b)]) /\ w'.ownsRow w.heap.size 3 1 v (jF a b).length (ints (jF a b)) /\ Below w.heap.size w w' := by
 have hmf : ∀ (fn : Fn) (first cap : Array Value) (w : World), (Instr.makeFunc fn first cap).run Tryz.prog w = .ok (.func fn first cap) w := fun _ _ _ _ => rfl
 obtain ⟨Q, hQ⟩ : ∃ Q, Q = (w.alloc (.cells #[.int .i64 a.w, .int .i64 a.h, .slice A1 a.cells.length c1, .int .i64 a.x, .int .i64 a.y, .bool a.shown] 24)).alloc (.cells #[.int .i64 b.w, .int .i64 b.h, .slice A2 b.cells.length c2, .int .i64 b.x, .int .i64 b.y, .bool b.shown] 24) := ⟨_, rfl⟩
 have BQ : Below w.heap.size w Q := by rw [hQ]; exact ((Below.refl _ w).alloc Vf _).alloc (by simp) _
 have K1 : Hid (Blk Q w.heap.size [.int .i64 a.w, .int .i64 a.h, .slice A1 a.cells.length c1, .int .i64 a.x, .int .i64 a.y, .bool a.shown]) := Vd (by
  rw [hQ]
  exact (Blk.new w [.int .i64 a.w, .int .i64 a.h, .slice A1 a.cells.length c1, .int .i64 a.x, .int .i64 a.y, .bool a.shown] 24).alloc _)
 have K2 : Hid (Blk Q (w.heap.size + 1) [.int .i64 b.w, .int .i64 b.h, .slice A2 b.cells.length c2, .int .i64 b.x, .int .i64 b.y, .bool b.shown]) := Vd (by
  have := Blk.new (w.alloc (.cells #[.int .i64 a.w, .int .i64 a.h, .slice A1 a.cells.length c1, .int .i64 a.x, .int .i64 a.y, .bool a.shown] 24)) [.int .i64 b.w, .int .i64 b.h, .slice A2 b.cells.length c2, .int .i64 b.x, .int .i64 b.y, .bool b.shown] 24
  have e : (w.alloc (.cells #[.int .i64 a.w, .int .i64 a.h, .slice A1 a.cells.length c1, .int .i64 a.x, .int .i64 a.y, .bool a.shown] 24)).heap.size = w.heap.size + 1 := by simp
  rw [e] at this
  rw [hQ]
  exact this)
 have R1 := Vd (QL a A1 c1 Q ((ha.below BQ).more BQ.size))
 have R2 := Vd (fun W (h : Below w.heap.size w W) => QL b A2 c2 W ((hb.below h).more h.size))
 have C0 : Hid (∀ x y, zi a = x -> zi b = y -> (x = false \/ y = false) -> js a b = 180 /\ jF a b = []) := Vd (fun x y h1 h2 h => by
  have e : js a b = 180 := by unfold js; rw [if_pos (by rw [h1, h2]; exact h)]
  exact ⟨e, by unfold jF; rw [e]; rfl⟩)
 have HB := Vd BQ
 have HA1 := Vd ha
 have HB1 := Vd hb
 simp only [scrV] at R1 R2 ⊢
 clear ha hb BQ
 cases ra : zi a with
 | false =>
  obtain ⟨e1, e2⟩ := C0.out false _ ra rfl (Or.inl rfl)
  rw [ra] at R1
  rw [e1, e2]
  clear ra e1 e2
  go_enter Tryz.func15, Tryz.ntmps15
  go_wp2_with fail
  rw [<- hQ]
  clear hQ
  refine R1.out.mono ?_; rintro e w1 ⟨rfl, hb1⟩
  have BB := Vd (HB.out.trans (hb1.mono HB.out.size))
  clear hb1
  go_wp2_with fail
  go_ret2
  exact ⟨_, rfl, World.ownsRow_nil _ _ _ _, BB.out⟩
 | true =>
  rw [ra] at R1
  go_enter Tryz.func15, Tryz.ntmps15
  go_wp2_with fail
  rw [<- hQ]
  clear hQ
  refine R1.out.mono ?_; rintro e w1 ⟨rfl, hb1⟩
  have B1 := Vd (HB.out.trans (hb1.mono HB.out.size))
  have K1 := Vd (K1.out.keep hb1 K1.out.lt)
  have K2 := Vd (K2.out.keep hb1 K2.out.lt)
  have y0 := K2.out.c 0 _ rfl
  have y1 := K2.out.c 1 _ rfl
  have y2 := K2.out.c 2 _ rfl
  have y3 := K2.out.c 3 _ rfl
  have y4 := K2.out.c 4 _ rfl
  have y5 := K2.out.c 5 _ rfl
  clear hb1
  go_wp2_with fail
  refine (R2.out w1 B1.out).mono ?_; rintro e w2 ⟨rfl, hb2⟩
  have B2 := Vd (B1.out.trans (hb2.mono B1.out.size))
  have K1 := K1.out.keep hb2 K1.out.lt
  have K2 := K2.out.keep hb2 K2.out.lt
  have x0 := K1.c 0 _ rfl
  have x1 := K1.c 1 _ rfl
  have x2 := K1.c 2 _ rfl
  have y0 := K2.c 0 _ rfl
  have y1 := K2.c 1 _ rfl
  have y2 := K2.c 2 _ rfl
  have KK1 := Vd K1
  have KK2 := Vd K2
  clear hb2 K1 K2
  cases rb : zi b with
  | false =>
   obtain ⟨e1, e2⟩ := C0.out true false ra rb (Or.inr rfl)
   have E1 := Vd e1
   have E2 := Vd e2
   clear e1 e2 rb ra
   go_wp2_with fail
   go_ret2
   rw [E1.out, E2.out]
   exact ⟨_, rfl, World.ownsRow_nil _ _ _ _, B2.out⟩
  | true =>
   by_cases sz : a.w = b.w /\ a.h = b.h
   ·obtain ⟨ew, eh⟩ := sz
    have e1 : js a b = 0 := by unfold js; rw [ra, rb]; simp [ew, eh]
    have e2 : jF a b = chgL (zg 0 a.cells b.cells) := by unfold jF; rw [if_pos e1]
    have len : a.cells.length = b.cells.length := by
     have h1 := (z7 ra).2.1
     have h2 := (z7 rb).2.1
     rw [ew, eh] at h1
     omega
    have rowb := xI rb
    have g1 : (a.w != b.w) = false := by rw [ew]; simp
    have g2 : (a.h != b.h) = false := by rw [eh]; simp
    have E1 := Vd e1
    have E2 := Vd e2
    obtain ⟨X, hX⟩ : ∃ X, X = w2.alloc (.cells #[.slice none 0 0] 38) := ⟨_, rfl⟩
    have bX : Boxed X w2.heap.size 38 (.slice none 0 0) := by rw [hX]; exact Boxed.new w2 _ _
    have BX : Below w.heap.size w X := by rw [hX]; exact B2.out.alloc B2.out.size _
    have U := Vd (QI 30 #[.pointer (some ⟨w2.heap.size, 0, none⟩)] (enters_of Tryz.func30 (by kernel_rfl) rfl)
     (fun pre W => BoxRow W w2.heap.size w2.heap.size (chgL pre) /\ Below w.heap.size w W) A1 A2 c1 c2 a.cells b.cells len HB1.out.len rowb
     (fun pre i n W hj hp hn => by
      obtain ⟨q1, q2⟩ := chg_pre rowb len hp hn
      have hl := HB1.out.len
      refine (d_chg1 w2.heap.size w2.heap.size (chgL pre) i n hn (by omega) (by omega) W hj.1 ?_ Vf).mono ?_
      ·obtain ⟨v, hv, _⟩ := hj.1
       exact Nat.le_of_lt hv.lt
      ·rintro e W' ⟨hv, h1, h2⟩
       exact ⟨hv, by rw [QK]; exact h1, hj.2.trans (h2.mono B2.out.size)⟩)
     (fun pre W hj => ⟨((HA1.out.below hj.2).more hj.2.size).sees, ((HB1.out.below hj.2).more hj.2.size).sees⟩)
     (fun pre W W' hj hb => ⟨hj.1.keep hb, hj.2.trans (hb.mono hj.2.size)⟩) X ⟨⟨_, bX, World.ownsRow_nil _ _ _ _⟩, BX⟩)
    have lX : Below w2.heap.size w2 X := by rw [hX]; exact (Below.refl _ _).alloc Vf _
    have X2 := (KK1.out.keep lX KK1.out.lt).c 2 _ rfl
    have Y2 := (KK2.out.keep lX KK2.out.lt).c 2 _ rfl
    rw [hX] at X2 Y2
    clear e1 e2 len rowb rb ra ew eh bX BX lX x2 y2
    go_wp2_with fail
    rw [<- hX]
    clear hX
    refine U.out.mono ?_; rintro e w3 ⟨⟨v0, rfl⟩, ⟨v, hv, hrow⟩, hb3⟩
    have cO := hv.cell
    obtain ⟨A, c, rfl⟩ := qT hrow
    have OW := Vd (jf hrow B2.out.size)
    have BB := Vd hb3
    clear hv hrow hb3
    go_wp2_with fail
    go_ret2
    rw [E1.out, E2.out]
    exact ⟨_, rfl, OW.out, BB.out⟩
   ·have e1 : js a b = 5 := by
     unfold js
     rw [ra, rb]
     have : a.w ≠ b.w \/ a.h ≠ b.h := by
      by_cases z : a.w = b.w
      ·exact Or.inr (fun y => sz ⟨z, y⟩)
      ·exact Or.inl z
     simp [this]
    have e2 : jF a b = [] := by unfold jF; rw [e1]; rfl
    have E1 := Vd e1
    have E2 := Vd e2
    clear e1 e2
    by_cases ew : a.w = b.w
    ·have g1 : (a.w != b.w) = false := by rw [ew]; simp
     have g2 : (a.h != b.h) = true := by rw [bne_iff_ne]; exact fun y => sz ⟨ew, y⟩
     clear ew sz ra rb
     go_wp2_with fail
     go_ret2
     rw [E1.out, E2.out]
     exact ⟨_, rfl, World.ownsRow_nil _ _ _ _, B2.out⟩
    ·have g1 : (a.w != b.w) = true := by rw [bne_iff_ne]; exact ew
     clear ew sz ra rb
     go_wp2_with fail
     go_ret2
     rw [E1.out, E2.out]
     exact ⟨_, rfl, World.ownsRow_nil _ _ _ _, B2.out⟩
end
section
open Go Go.RowKit Go.Sort
section
set_option maxHeartbeats 16000000 in
set_option maxRecDepth 100000 in
theorem X4 (A1 A2 : Option Addr) (c1 c2 : Nat) (L1 L2 : List Cel) (hl : L1.length <= 1000000000000) (hl2 : L2.length <= 1000000000000) (w : World) (S1 : Sees w w.heap.size A1 (zc L1)) (S2 : Sees w w.heap.size A2 (zc L2)) :
    Calls Tryz.prog 25 #[.slice A1 L1.length c1, .slice A2 L2.length c2] w fun e w' => e = .returned (.bool (decide (L1 = L2))) /\ Below w.heap.size w w' := by
  have HS1 := Vd S1
  have HS2 := Vd S2
  have YES : Hid (∀ e : Ending, e = .returned (.bool true) -> L1 = L2 -> e = .returned (.bool (decide (L1 = L2)))) := Vd (fun e h1 h2 => by rw [h1, decide_eq_true h2])
  have NO : Hid (∀ e : Ending, e = .returned (.bool false) -> L1 ≠ L2 -> e = .returned (.bool (decide (L1 = L2)))) := Vd (fun e h1 h2 => by rw [h1, decide_eq_false h2])
  have LE : Hid (L1.length ≠ L2.length -> L1 ≠ L2) := Vd (fun h e => h (by rw [e]))
  generalize hD : decide (L1 = L2) = D at *
  obtain ⟨N, hN⟩ : ∃ N, N = L1.length := ⟨_, rfl⟩
  obtain ⟨M, hM⟩ : ∃ M, M = L2.length := ⟨_, rfl⟩
  have HN := Vd hN
  have HM := Vd hM
  rw [<- hN] at hl LE ⊢
  rw [<- hM] at hl2 LE ⊢
  clear S1 S2 hD hN hM
  by_cases nm : N = M
  case neg =>
    have q : ((N : Int) == (M : Int)) = false := by rw [beq_eq_false_iff_ne]; omega
    have NE := Vd (LE.out nm)
    go_enter Tryz.func25, Tryz.ntmps25
    go_wp2_with fail
    go_ret
    exact ⟨NO.out _ rfl NE.out, Below.refl _ _⟩
  subst nm
  go_enter Tryz.func25, Tryz.ntmps25
  go_wp2_with fail
  go_loopw [5] (fun s5 wr => ∃ k : Nat, k <= N /\ s5 = .int .i64 (k : Int) /\ Hid (L1.take k = L2.take k) /\ Hid (Below w.heap.size w wr)) (fun s5 _ => N - (intOf s5).toNat)
  case atStart => exact ⟨0, Nat.zero_le _, rfl, Vd (by simp), Vd (Below.refl _ _)⟩
  case round =>
    obtain ⟨k, hk, rfl, ht, hb⟩ := hrel
    by_cases lt : k < N
    · have k1 : k < L1.length := by rw [<- HN.out]; exact lt
      have k2 : k < L2.length := by rw [<- HM.out]; exact lt
      have BD := Vd (fun q => j5 q wr hb.out)
      obtain ⟨ad, rfl, ab, _⟩ := ja HS1.out k k1
      obtain ⟨ae, rfl, bb, _⟩ := ja HS2.out k k2
      have CA := Vd (fun q => jE (HS1.out.below (BD.out q) Vf) k k1)
      have CB := Vd (fun q => jE (HS2.out.below (BD.out q) Vf) k k2)
      have T1 := Vd (List.take_succ_eq_append_getElem k1)
      have T2 := Vd (List.take_succ_eq_append_getElem k2)
      have DF : Hid (L1[k] ≠ L2[k] -> L1 ≠ L2) := Vd (fun h e => by subst e; exact h rfl)
      generalize L1[k] = x at *
      generalize L2[k] = y at *
      obtain ⟨tx, wx, ⟨fx, gx, ax⟩⟩ := x
      obtain ⟨ty, wy, ⟨fy, gy, ay⟩⟩ := y
      dsimp only at CA CB
      have z0 := fun q => (CA.out q).1
      have z1 := fun q => (CA.out q).2.1
      have z2 := fun q => (CA.out q).2.2.1
      have z3 := fun q => (CA.out q).2.2.2.1
      have z4 := fun q => (CA.out q).2.2.2.2
      have y0 := fun q => (CB.out q).1
      have y1 := fun q => (CB.out q).2.1
      have y2 := fun q => (CB.out q).2.2.1
      have y3 := fun q => (CB.out q).2.2.2.1
      have y4 := fun q => (CB.out q).2.2.2.2
      have q0 : (0 : Int) <= (k : Int) := by omega
      have q5 : (k : Int) < (N : Int) := by omega
      have tn : (k : Int).toNat = k := by omega
      have wk := Ve ((k : Int) + 1) (by omega)
      clear CA CB k1 k2
      go_upto_region 6 with fail
      by_cases e1 : (⟨tx, wx, ⟨fx, gx, ax⟩⟩ : Cel) = ⟨ty, wy, ⟨fy, gy, ay⟩⟩
      · have NX : Hid (L1.take (k + 1) = L2.take (k + 1)) := Vd (by rw [T1.out, T2.out, ht.out, e1])
        injection e1 with a1 a2 a3; injection a3 with a3 a4 a5
        subst a1 a2 a3 a4 a5
        refine qP 8 (by kernel_rfl) (by kernel_rfl) ?_
        simp only [Vg, Vh, Vi, Vj]
        repeat (first | go_big_quiet_step (fail) | quiet_step (fail))
        refine wpQuiet_nil ?_
        intro _ hw'
        obtain ⟨nq, hw''⟩ := hw'
        subst hw''
        have B5 := Vd (BD.out nq)
        clear z0 z1 z2 z3 z4 y0 y1 y2 y3 y4 BD
        generalize wr.drewN nq = V at *
        go_wp2_with fail
        go_roundw
        case rel => exact ⟨k + 1, by omega, by go_num, NX, B5⟩
        case measure => simp [intOf]; omega
      · have NE := Vd (DF.out e1)
        refine qP 8 (by kernel_rfl) (by kernel_rfl) ?_
        simp only [Vg, Vh, Vi, Vj]
        repeat (first | go_big_quiet_step (fail) | quiet_step (fail))
        refine wpQuiet_nil ?_
        intro _ hw'
        obtain ⟨nq, hw''⟩ := hw'
        subst hw''
        have B5 := Vd (BD.out nq)
        clear z0 z1 z2 z3 z4 y0 y1 y2 y3 y4 BD
        generalize wr.drewN nq = V at *
        have CN := Vd (jS True False e1)
        clear e1 DF T1 T2
        go_wp2_with fail
        all_goals first
        | (go_ret; exact ⟨NO.out _ rfl NE.out, B5.out⟩)
        | (exfalso
           have q := CN.out
           simp only [*, if_true] at q
           exact q.mp trivial)
    · have e : k = N := by omega
      subst e
      have q5 : ¬ (k : Int) < (k : Int) := by omega
      have EQ : Hid (L1 = L2) := Vd (by
        have := ht.out
        rw [List.take_of_length_le (by rw [<- HN.out]; exact Vf), List.take_of_length_le (by rw [<- HM.out]; exact Vf)] at this
        exact this)
      clear ht
      go_wp2_with fail
      go_ret
      exact ⟨YES.out _ rfl EQ.out, hb.out⟩
end
end
section
open Go.RowKit Go.Sort
theorem QM : ∀ (L : List (ByteArray × Int)) (i : Nat) (h : i < L.length), (cls L)[i * 2]? = some (.string (L[i]).1) /\ (cls L)[i * 2 + 1]? = some (.int .i64 (L[i]).2)
 | [], i, h => by cases h
 | p :: l, 0, _ => ⟨rfl, rfl⟩
 | p :: l, i + 1, h => by
  have ih := QM l i (by simpa using h)
  have e : cls (p :: l) = .string p.1 :: .int .i64 p.2 :: cls l := rfl
  rw [e, show (i + 1) * 2 = i * 2 + 1 + 1 by omega]
  simpa using ih
theorem j6 {w : World} {B : Nat} {A : Option Addr} {L : List (ByteArray × Int)} (h : Sees w B A (cls L)) (i : Nat) (hi : i < L.length) : ∃ ad, A = some ad /\ ad.block < B /\ w.cell? (ad.add (i * 2)) = some (.string (L[i]).1) /\ w.cell? ⟨(ad.add (i * 2)).block, (ad.add (i * 2)).off + 1, none⟩ = some (.int .i64 (L[i]).2) := by
 obtain ⟨ad, e, hb, hc⟩ := h (fun e => by have := Qe L; rw [e] at this; simp at this; omega)
 have c := QM L i hi
 refine ⟨ad, e, hb, hc _ _ c.1, ?_⟩
 rw [qi (ad.add (i * 2)) 1 (by decide), xo]
 exact hc _ _ c.2
theorem j7 {w : World} {base : Nat} {T : TypeId} {v : Value} {n : Nat} {xs : List Value} (h : w.ownsRow base T 2 v n xs) : ∃ A c, v = .slice A n c /\ n <= c /\ Sees w w.heap.size A xs := by
 rcases kv h with ⟨rfl, rfl⟩ | ⟨g, c, rfl, h1, h2, h3, h4, h5⟩
 ·have := h.1
  simp at this
  subst this
  exact ⟨_, _, rfl, Vf, Sees.nil _ _ _⟩
 ·refine ⟨_, _, rfl, h3, fun _ => ⟨_, rfl, h2, fun j u hj => ?_⟩⟩
  have e : ((⟨g, 0, none⟩ : Addr).add j) = ⟨g, j, none⟩ := by
   unfold Addr.add
   split
   ·rename_i z; rw [z]
   ·simp
  rw [e]
  exact h5 j u hj
theorem vH {s t : ByteArray} (h : ¬ s = t) : ¬ s.toList = t.toList := fun e => h (by
 rw [ByteArray.toList_eq, ByteArray.toList_eq] at e
 exact ByteArray.ext (Array.toList_inj.1 e))
set_option maxHeartbeats 16000000 in
set_option maxRecDepth 100000 in
theorem d_Joins (a b : ByteArray) (h : a.size + b.size <= 1000000000000) (w : World) : Calls Tryz.prog 51 #[.string a, .string b] w fun e w' => e = .returned (.bool (qK a b)) /\ Below w.heap.size w w' := by
 have S1 := Vd (ku (a ++ b) (by rw [ByteArray.size_append]; exact h))
 have S2 := Vd (ku a (by omega))
 have S3 := Vd (ku b (by omega))
 have L1 := jv (a ++ b)
 have L2 := jv a
 have L3 := jv b
 rw [ByteArray.size_append] at L1
 have JB : Hid (qK a b = decide (zu (a ++ b) ≠ zu a ++ zu b)) := Vd rfl
 generalize qK a b = r at *
 have nov : (9223372036854775807 < a.size + b.size) = False := eq_false (by omega)
 generalize zu (a ++ b) = L at *
 generalize zu a = M at *
 generalize zu b = K at *
 go_enter Tryz.func51, Tryz.ntmps51
 go_wp2_with fail
 refine (S1.out _).mono ?_; rintro e w1 ⟨v1, rfl, o1, b1⟩
 obtain ⟨A1, c1, rfl, n1, s1⟩ := j7 o1
 have W1 := Vd b1
 have Q1 := Vd s1
 clear o1 b1 s1
 go_wp2_with fail
 refine (S2.out _).mono ?_; rintro e w2 ⟨v2, rfl, o2, b2⟩
 obtain ⟨A2, c2, rfl, n2, s2⟩ := j7 o2
 have W2 := Vd (zl W1.out W1.out.size b2)
 have Q1 := Vd ((Q1.out.below b2 Vf).more b2.size)
 have Q2 := Vd s2
 clear o2 b2 s2 W1
 go_wp2_with fail
 refine (S3.out _).mono ?_; rintro e w3 ⟨v3, rfl, o3, b3⟩
 obtain ⟨A3, c3, rfl, n3, s3⟩ := j7 o3
 have W3 := Vd (zl W2.out W2.out.size b3)
 have Q1 := Vd ((Q1.out.below b3 Vf).more b3.size)
 have Q2 := Vd ((Q2.out.below b3 Vf).more b3.size)
 have Q3 := Vd s3
 clear o3 b3 s3 W2
 obtain ⟨n, hn⟩ : ∃ n, n = L.length := ⟨_, rfl⟩
 obtain ⟨m, hm⟩ : ∃ m, m = M.length := ⟨_, rfl⟩
 obtain ⟨p, hp⟩ : ∃ p, p = K.length := ⟨_, rfl⟩
 rw [<- hn] at L1 n1 ⊢
 rw [<- hm] at L2 n2 ⊢
 rw [<- hp] at L3 n3 ⊢
 have HN := Vd hn
 have HM := Vd hm
 have HP := Vd hp
 clear hn hm hp nov
 by_cases e : n = m + p
 ·subst e
  have e1 : ((m : Int) + (p : Int) != (m : Int) + (p : Int)) = false := by simp
  go_wp2_with fail
  go_loopw [28] (fun i wr => ∃ k : Nat, k <= m + p /\ i = .int .i64 k /\ Hid (∀ j, j < k -> L[j]? = (M ++ K)[j]?) /\ Hid (Below w3.heap.size w3 wr)) (fun i _ => m + p - (intOf i).toNat)
  case atStart => exact ⟨0, Nat.zero_le _, rfl, Vd (fun j h => by omega), Vd (Below.refl _ _)⟩
  case round =>
   obtain ⟨k, hk, rfl, hr, hb⟩ := hrel
   by_cases lt : k < m + p
   ·have kl : k < L.length := by rw [<- HN.out]; exact lt
    obtain ⟨ad1, rfl, a1, x1, y1⟩ := j6 Q1.out k kl
    have x1 := (hb.out.cell (p := ad1.add (k * 2)) (by rw [zj]; exact a1)).trans x1
    have y1 := (hb.out.cell (p := ⟨(ad1.add (k * 2)).block, (ad1.add (k * 2)).off + 1, none⟩) (by simp only [zj]; exact a1)).trans y1
    have E1 : Hid (L[k]? = some (L[k].1, L[k].2)) := Vd (by rw [List.getElem?_eq_getElem kl])
    generalize (L[k]).1 = t1 at *
    generalize (L[k]).2 = u1 at *
    have lt2 : (k : Int) < (m : Int) + (p : Int) := by omega
    go_upto_region 7 with fail
    have K2 : C2 (wr.alloc (.cells #[.string t1, .int .i64 u1] 109)) wr.heap.size (.string t1) (.int .i64 u1) := by constructor <;> simp [go_sem]
    have HX := Vd (hb.out.alloc hb.out.size (.cells #[.string t1, .int .i64 u1] 109))
    generalize wr.alloc (.cells #[.string t1, .int .i64 u1] 109) = X at *
    have k00 := fun d os => ((K2).regrown d os).c0
    have k01 := fun d os => ((K2).regrown d os).c1
    clear x1 y1 hb K2
    by_cases km : k < m
    ·have nm : ¬ m <= k := by omega
     obtain ⟨ad2, rfl, a2, x2, y2⟩ := j6 Q2.out k (show k < M.length by rw [<- HM.out]; exact km)
     have x2 := fun d os => ((HX.out.trans ((below_regrown X d os).mono HX.out.size)).cell (p := ad2.add (k * 2)) (by rw [zj]; exact a2)).trans x2
     have y2 := fun d os => ((HX.out.trans ((below_regrown X d os).mono HX.out.size)).cell (p := ⟨(ad2.add (k * 2)).block, (ad2.add (k * 2)).off + 1, none⟩) (by simp only [zj]; exact a2)).trans y2
     have E2 : Hid ((M ++ K)[k]? = some (M[k].1, M[k].2)) := Vd (by rw [List.getElem?_append_left (by rw [<- HM.out]; exact km), List.getElem?_eq_getElem (by rw [<- HM.out]; exact km)])
     generalize (M[k]).1 = t2 at *
     generalize (M[k]).2 = u2 at *
     by_cases te : t1 = t2
     ·subst te
      by_cases ue : u1 = u2
      ·subst ue
       have NX : Hid (∀ j, j < k + 1 -> L[j]? = (M ++ K)[j]?) := Vd (fun j hj => by
        by_cases jk : j = k
        ·rw [jk, E1.out, E2.out]
        ·exact hr.out j (by omega))
       refine zn 28 [] [] (by kernel_rfl) (by kernel_rfl) (by kernel_rfl) (by intro t ht; cases ht) ?_
       simp only [Vg, Vh, Vi, Vj]
       repeat (refine ze (by rfl) (fun K hK => ?_); go_simp; first | (refine hK _ ?_; clear hK K) | (apply Exists.intro; refine ⟨fun _ => ?_, hK _ ?_⟩; (fail); clear hK K))
       refine zm ?_
       intro W5 vs5 hl hv
       have hb5 := zk.1 hl
       have B5 := Vd (HX.out.trans (hb5.mono HX.out.size))
       clear hl hv hb5 x2 y2 k00 k01
       simp only [zd]
       go_wp2_with fail
       go_roundw
       case rel => exact ⟨k + 1, by omega, by go_num, NX, B5⟩
       case measure => simp [intOf]; omega
      ·have NE : Hid (r = true) := Vd (by
        rw [JB.out]
        refine decide_eq_true (fun h => ue ?_)
        have := E1.out
        rw [h, E2.out] at this
        exact (Prod.mk.inj (Option.some.inj this)).2.symm)
       refine zn 28 [] [] (by kernel_rfl) (by kernel_rfl) (by kernel_rfl) (by intro t ht; cases ht) ?_
       simp only [Vg, Vh, Vi, Vj]
       repeat (refine ze (by rfl) (fun K hK => ?_); go_simp; first | (refine hK _ ?_; clear hK K) | (apply Exists.intro; refine ⟨fun _ => ?_, hK _ ?_⟩; (fail); clear hK K))
       refine zm ?_
       intro W5 vs5 hl hv
       have hb5 := zk.1 hl
       have B5 := Vd (HX.out.trans (hb5.mono HX.out.size))
       clear hl hv hb5 x2 y2 k00 k01
       simp only [zd]
       go_wp2_with fail
       go_ret
       exact ⟨zv (by rw [NE.out]), W3.out.trans (B5.out.mono W3.out.size)⟩
     ·have NE : Hid (r = true) := Vd (by
       rw [JB.out]
       refine decide_eq_true (fun h => te ?_)
       have := E1.out
       rw [h, E2.out] at this
       exact (Prod.mk.inj (Option.some.inj this)).1.symm)
      have tl := vH te
      refine zn 28 [] [] (by kernel_rfl) (by kernel_rfl) (by kernel_rfl) (by intro t ht; cases ht) ?_
      simp only [Vg, Vh, Vi, Vj]
      repeat (refine ze (by rfl) (fun K hK => ?_); go_simp; first | (refine hK _ ?_; clear hK K) | (apply Exists.intro; refine ⟨fun _ => ?_, hK _ ?_⟩; (fail); clear hK K))
      refine zm ?_
      intro W5 vs5 hl hv
      have hb5 := zk.1 hl
      have B5 := Vd (HX.out.trans (hb5.mono HX.out.size))
      clear hl hv hb5 x2 y2 k00 k01
      simp only [zd]
      go_wp2_with fail
      go_ret
      exact ⟨zv (by rw [NE.out]), W3.out.trans (B5.out.mono W3.out.size)⟩
    ·obtain ⟨q, hq⟩ : ∃ q : Nat, (k : Int) - (m : Int) = (q : Int) := ⟨k - m, by omega⟩
     have qp : q < p := by omega
     have mk : m <= k := by omega
     have wq : IntKind.i64.wrap (q : Int) = (q : Int) := by rw [IntKind.wrap_i64]; omega
     have qk : k - M.length = q := by rw [<- HM.out]; omega
     obtain ⟨ad2, rfl, a2, x2, y2⟩ := j6 Q3.out q (show q < K.length by rw [<- HP.out]; exact qp)
     have x2 := fun d os => ((HX.out.trans ((below_regrown X d os).mono HX.out.size)).cell (p := ad2.add (q * 2)) (by rw [zj]; exact a2)).trans x2
     have y2 := fun d os => ((HX.out.trans ((below_regrown X d os).mono HX.out.size)).cell (p := ⟨(ad2.add (q * 2)).block, (ad2.add (q * 2)).off + 1, none⟩) (by simp only [zj]; exact a2)).trans y2
     have E2 : Hid ((M ++ K)[k]? = some (K[q].1, K[q].2)) := Vd (by rw [List.getElem?_append_right (by rw [<- HM.out]; exact mk), qk, List.getElem?_eq_getElem (by rw [<- HP.out]; exact qp)])
     generalize (K[q]).1 = t2 at *
     generalize (K[q]).2 = u2 at *
     by_cases te : t1 = t2
     ·subst te
      by_cases ue : u1 = u2
      ·subst ue
       have NX : Hid (∀ j, j < k + 1 -> L[j]? = (M ++ K)[j]?) := Vd (fun j hj => by
        by_cases jk : j = k
        ·rw [jk, E1.out, E2.out]
        ·exact hr.out j (by omega))
       refine zn 28 [] [] (by kernel_rfl) (by kernel_rfl) (by kernel_rfl) (by intro t ht; cases ht) ?_
       simp only [Vg, Vh, Vi, Vj]
       repeat (refine ze (by rfl) (fun K hK => ?_); go_simp; first | (refine hK _ ?_; clear hK K) | (apply Exists.intro; refine ⟨fun _ => ?_, hK _ ?_⟩; (fail); clear hK K))
       refine zm ?_
       intro W5 vs5 hl hv
       have hb5 := zk.1 hl
       have B5 := Vd (HX.out.trans (hb5.mono HX.out.size))
       clear hl hv hb5 x2 y2 k00 k01
       simp only [zd]
       go_wp2_with fail
       go_roundw
       case rel => exact ⟨k + 1, by omega, by go_num, NX, B5⟩
       case measure => simp [intOf]; omega
      ·have NE : Hid (r = true) := Vd (by
        rw [JB.out]
        refine decide_eq_true (fun h => ue ?_)
        have := E1.out
        rw [h, E2.out] at this
        exact (Prod.mk.inj (Option.some.inj this)).2.symm)
       refine zn 28 [] [] (by kernel_rfl) (by kernel_rfl) (by kernel_rfl) (by intro t ht; cases ht) ?_
       simp only [Vg, Vh, Vi, Vj]
       repeat (refine ze (by rfl) (fun K hK => ?_); go_simp; first | (refine hK _ ?_; clear hK K) | (apply Exists.intro; refine ⟨fun _ => ?_, hK _ ?_⟩; (fail); clear hK K))
       refine zm ?_
       intro W5 vs5 hl hv
       have hb5 := zk.1 hl
       have B5 := Vd (HX.out.trans (hb5.mono HX.out.size))
       clear hl hv hb5 x2 y2 k00 k01
       simp only [zd]
       go_wp2_with fail
       go_ret
       exact ⟨zv (by rw [NE.out]), W3.out.trans (B5.out.mono W3.out.size)⟩
     ·have NE : Hid (r = true) := Vd (by
       rw [JB.out]
       refine decide_eq_true (fun h => te ?_)
       have := E1.out
       rw [h, E2.out] at this
       exact (Prod.mk.inj (Option.some.inj this)).1.symm)
      have tl := vH te
      refine zn 28 [] [] (by kernel_rfl) (by kernel_rfl) (by kernel_rfl) (by intro t ht; cases ht) ?_
      simp only [Vg, Vh, Vi, Vj]
      repeat (refine ze (by rfl) (fun K hK => ?_); go_simp; first | (refine hK _ ?_; clear hK K) | (apply Exists.intro; refine ⟨fun _ => ?_, hK _ ?_⟩; (fail); clear hK K))
      refine zm ?_
      intro W5 vs5 hl hv
      have hb5 := zk.1 hl
      have B5 := Vd (HX.out.trans (hb5.mono HX.out.size))
      clear hl hv hb5 x2 y2 k00 k01
      simp only [zd]
      go_wp2_with fail
      go_ret
      exact ⟨zv (by rw [NE.out]), W3.out.trans (B5.out.mono W3.out.size)⟩
   ·have e : k = m + p := by omega
    have nk : ¬ (k : Int) < (m : Int) + (p : Int) := by omega
    have R : Hid (r = false) := Vd (by
     rw [JB.out]
     refine decide_eq_false (fun h => h ?_)
     refine List.ext_getElem? fun j => ?_
     by_cases jk : j < k
     ·exact hr.out j jk
     ·rw [List.getElem?_eq_none (by rw [<- HN.out]; omega), List.getElem?_eq_none (by rw [List.length_append, <- HM.out, <- HP.out]; omega)])
    have BB := Vd (W3.out.trans (hb.out.mono W3.out.size))
    clear hr hb
    go_wp2_with fail
    go_ret
    exact ⟨zv (by rw [R.out]), BB.out⟩
 ·have e1 : ((n : Int) != (m : Int) + (p : Int)) = true := by simp; omega
  have R : Hid (r = true) := Vd (by
   rw [JB.out]
   refine decide_eq_true (fun h => e ?_)
   rw [HN.out, h, List.length_append, <- HM.out, <- HP.out])
  clear e
  go_wp2_with fail
  go_ret
  exact ⟨zv (by rw [R.out]), W3.out⟩
end
section
open Go Go.RowKit Go.Sort
def Own1 (W : World) (b : Nat) (vs : List Value) (T : TypeId) : Prop := W.heap[b]? = some (.cells vs.toArray T (0, 0))
theorem Own1.blk {W : World} {b : Nat} {vs : List Value} {T : TypeId} (h : Own1 W b vs T) : Blk W b vs := by
 unfold Own1 at h
 refine ⟨fun i v hv => ?_, fun i v hv => ?_⟩
 ·simp [World.cell?, h, hv]
 ·simp [World.frozen?, h]
theorem Own1.lt {W : World} {b : Nat} {vs : List Value} {T : TypeId} (h : Own1 W b vs T) : b < W.heap.size := (Array.getElem?_eq_some_iff.1 h).1
theorem Own1.set {W : World} {b : Nat} {vs : List Value} {T : TypeId} (h : Own1 W b vs T) (i : Nat) (y : Value) : Own1 (W.setCell ⟨b, i, none⟩ y) b (vs.set i y) T := by
 have := heap_setCell_same W b i vs.toArray T y h
 unfold Own1
 rw [this]
 simp
theorem Own1.of_grown {W W' : World} {b : Nat} {vs : List Value} {T : TypeId} {row : Option Nat} (h : Own1 W b vs T) (hg : W.grownBy W' row) (ne : some b ≠ row) : Own1 W' b vs T := (hg.block b h.lt ne).trans h
theorem Own1.below {W W' : World} {b : Nat} {vs : List Value} {T : TypeId} (h : Own1 W b vs T) (hb : Below W.heap.size W W') : Own1 W' b vs T := (hb.block b h.lt).trans h
theorem qU {W W' : World} (hb : Below W.heap.size W W') (row : Option Nat) : W.grownBy W' row := ⟨hb.os, hb.tape, hb.output, hb.size, fun k hk _ => hb.block k hk⟩
theorem qn {A B C : World} {row : Option Nat} (h : A.grownBy B row) (k : B.grownBy C row) : A.grownBy C row :=
 ⟨k.os.trans h.os, k.tape.trans h.tape, k.output.trans h.output, Nat.le_trans h.size k.size, fun j hj ne => (k.block j (Nat.lt_of_lt_of_le hj h.size) ne).trans (h.block j hj ne)⟩
def KeepT (W W' : World) : Prop := ∀ (k : Nat) (arr : Array Value) (fl : Nat × Nat), W.heap[k]? = some (Obj.cells arr 58 fl) -> W'.heap[k]? = W.heap[k]?
theorem KeepT.trans {A B C : World} (h : KeepT A B) (k : KeepT B C) : KeepT A C := fun j arr fl hj => (k j arr fl ((h j arr fl hj).trans hj)).trans (h j arr fl hj)
theorem KeepT.below {W W' : World} (hb : Below W.heap.size W W') : KeepT W W' := fun k arr fl hk => hb.block k (Array.getElem?_eq_some_iff.1 hk).1
theorem KeepT.grown {W W' : World} {row : Option Nat} (hg : W.grownBy W' row) (hr : ∀ b, row = some b -> ∀ arr fl, W.heap[b]? ≠ some (.cells arr 58 fl)) : KeepT W W' := fun k arr fl hk =>
 hg.block k (Array.getElem?_eq_some_iff.1 hk).1 (fun e => hr k e.symm arr fl hk)
theorem KeepT.set {W : World} {b i : Nat} {vs : List Value} {T : TypeId} {y : Value} (h : Own1 W b vs T) (ne : T ≠ 58) : KeepT W (W.setCell ⟨b, i, none⟩ y) :=
 KeepT.grown (zA W ⟨b, i, none⟩ y) (fun b' e arr fl hk => by
  cases e
  unfold Own1 at h
  rw [h] at hk
  cases hk
  exact ne rfl)
theorem KeepT.sees {W W' : World} (h : KeepT W W') {g : Nat} {arr : Array Value} {fl : Nat × Nat} (hg : W.heap[g]? = some (.cells arr 58 fl)) {B : Nat} {xs : List Value} (S : Sees W B (some ⟨g, 0, none⟩) xs) : Sees W' B (some ⟨g, 0, none⟩) xs := fun hne => by
 obtain ⟨ad, e, hb, hc⟩ := S hne
 cases e
 refine ⟨_, rfl, hb, fun j u hj => ?_⟩
 have e : W'.cell? (({ block := g, off := 0 } : Addr).add j) = W.cell? (({ block := g, off := 0 } : Addr).add j) := World.cell?_of_block (by rw [zj]; exact h g arr fl hg)
 rw [e]
 exact hc j u hj
theorem X5 (a b : ByteArray) : Lib.strCells (a ++ b) = Lib.strCells a ++ Lib.strCells b := by
 unfold Lib.strCells
 rw [ByteArray.data_append, Array.toList_append, List.map_append]
structure Fix where
 w0 : World
 b : Nat
 p : Nat
 r : Nat
 d : Int
 LW : Int
 LH : Int
 LA : Option Addr
 Ln : Nat
 Lc : Nat
 LX : Int
 LY : Int
 Ls : Bool
 R : Scr
 RA : Option Addr
 Rc : Nat
def Fix.o (F : Fix) : Nat := F.w0.heap.size
def Fix.wri (F : Fix) (told : Bool) (t : Tel) (shn : Bool) : List Value := wriV F.d told F.LW F.LH F.LA F.Ln F.Lc F.LX F.LY F.Ls t shn
structure FixOk (F : Fix) : Prop where
 pb : F.p ≠ F.b
 rb : F.r ≠ F.b
 bo : F.b < F.w0.heap.size
 env : EnvD F.w0
 nb : F.b ≠ 1 /\ F.b ≠ 0 /\ F.b ≠ 2
 bp : Own1 F.w0 F.p [.pointer (some ⟨F.b, 0, none⟩)] 63
 br : Own1 F.w0 F.r [.int .i64 F.R.w, .int .i64 F.R.h, .slice F.RA F.R.cells.length F.Rc, .int .i64 F.R.x, .int .i64 F.R.y, .bool F.R.shown] 24
structure FrSt (F : Fix) (told : Bool) (t : Tel) (shn : Bool) (W : World) : Prop where
 ok : FixOk F
 bw : Own1 W F.b (F.wri told t shn) 86
 bs : Own1 W (F.o + 1) [.func (.func 45) #[] #[.pointer (some ⟨F.o, 0, none⟩), .pointer (some ⟨F.p, 0, none⟩)]] 87
 bm : Own1 W (F.o + 2) [.func (.func 46) #[] #[.pointer (some ⟨F.o + 1, 0, none⟩), .pointer (some ⟨F.p, 0, none⟩)]] 71
 bo : ∃ v, Boxed W F.o 66 v /\ W.ownsRow (F.o + 3) 5 1 v t.out.size (Lib.strCells t.out)
 gr : F.w0.grownBy W (some F.b)
theorem FrSt.below {F : Fix} {told : Bool} {t : Tel} {shn : Bool} {W W' : World} (h : FrSt F told t shn W) (hb : Below W.heap.size W W') : FrSt F told t shn W' := by
 obtain ⟨v, h1, h2⟩ := h.bo
 exact ⟨h.ok, h.bw.below hb, h.bs.below hb, h.bm.below hb, ⟨v, (hb.block F.o h1.lt).trans h1, qg h2 hb⟩, qn h.gr (qU hb _)⟩
theorem FrSt.bp {F : Fix} {told : Bool} {t : Tel} {shn : Bool} {W : World} (h : FrSt F told t shn W) : Own1 W F.p [.pointer (some ⟨F.b, 0, none⟩)] 63 := h.ok.bp.of_grown h.gr (fun e => h.ok.pb (Option.some.inj e))
theorem FrSt.br {F : Fix} {told : Bool} {t : Tel} {shn : Bool} {W : World} (h : FrSt F told t shn W) : Own1 W F.r [.int .i64 F.R.w, .int .i64 F.R.h, .slice F.RA F.R.cells.length F.Rc, .int .i64 F.R.x, .int .i64 F.R.y, .bool F.R.shown] 24 := h.ok.br.of_grown h.gr (fun e => h.ok.rb (Option.some.inj e))
theorem FrSt.sz {F : Fix} {told : Bool} {t : Tel} {shn : Bool} {W : World} (h : FrSt F told t shn W) : F.o + 3 <= W.heap.size := h.bm.lt
theorem EnvD.grown {w w' : World} {b : Nat} (h : EnvD w) (hg : w.grownBy w' (some b)) (n1 : b ≠ 1) (n2 : b ≠ 0) (n3 : b ≠ 2) : EnvD w' where
 st := ⟨fun k hk => (World.cell?_of_block (hg.block _ (block_lt_of_cell (h.st.on k hk)) (fun e => n1 (Option.some.inj e).symm))).trans (h.st.on k hk), fun k hk => (World.cell?_of_block (hg.block _ (block_lt_of_cell (h.st.off k hk)) (fun e => n2 (Option.some.inj e).symm))).trans (h.st.off k hk)⟩
 tab := by
  have t := h.tab
  unfold Lib.TabIs World.var? at t ⊢
  have gn : Tryz.prog.globalNamed "internal/strconv.uint64pow10" = some 2 := by kernel_rfl
  simp only [gn, Option.bind_some] at t ⊢
  rw [hg.block _ h.pg (fun e => n3 (Option.some.inj e).symm)]
  exact t
 pg := Nat.lt_of_lt_of_le h.pg hg.size
theorem FrSt.env {F : Fix} {told : Bool} {t : Tel} {shn : Bool} {W : World} (h : FrSt F told t shn W) : EnvD W := h.ok.env.grown h.gr h.ok.nb.1 h.ok.nb.2.1 h.ok.nb.2.2
theorem FrSt.setW {F : Fix} {told told' : Bool} {t t' : Tel} {shn shn' : Bool} {W : World} (h : FrSt F told t shn W) (i : Nat) (y : Value) (e : (F.wri told t shn).set i y = F.wri told' t' shn') (eo : t'.out = t.out) : FrSt F told' t' shn' (W.setCell ⟨F.b, i, none⟩ y) /\ KeepT W (W.setCell ⟨F.b, i, none⟩ y) := by
 have g := zA W ⟨F.b, i, none⟩ y
 have bo := h.ok.bo
 have s := h.sz
 obtain ⟨v, h1, h2⟩ := h.bo
 refine ⟨⟨h.ok, by rw [<- e]; exact h.bw.set i y, h.bs.of_grown g (fun q => ?_), h.bm.of_grown g (fun q => ?_), ⟨v, h1.kept g (fun q => ?_), ?_⟩, qn h.gr g⟩, KeepT.set h.bw (by decide)⟩
 ·have := Option.some.inj q; simp only [Fix.o] at this; omega
 ·have := Option.some.inj q; simp only [Fix.o] at this; omega
 ·have := Option.some.inj q; simp only [Fix.o] at this; omega
 ·rw [eo]
  refine h2.kept g ?_
  rcases h2.2 with ⟨rfl, _⟩ | ⟨g', cap, cur, rfl, hb, _⟩
  ·exact Or.inl rfl
  ·refine Or.inr (fun q => ?_)
   have := Option.some.inj q
   simp only [Fix.o] at *
   omega
theorem FrSt.added {F : Fix} {told : Bool} {t : Tel} {shn : Bool} {W w1 : World} {v v' : Value} {s : ByteArray} (h : FrSt F told t shn W) (hv : Boxed W F.o 66 v) (hr : W.ownsRow (F.o + 3) 5 1 v t.out.size (Lib.strCells t.out))
  (hown : w1.ownsRow (F.o + 3) 5 1 v' (t.out.size + s.size) (Lib.strCells t.out ++ Lib.strCells s)) (hg : W.grownBy w1 v.ownBlock) :
  Boxed w1 F.o 66 v /\ FrSt F told ⟨t.place, t.x, t.y, t.st, t.text, t.out ++ s⟩ shn (w1.setCell ⟨F.o, 0, none⟩ v') /\ KeepT W (w1.setCell ⟨F.o, 0, none⟩ v') := by
 have g := zA w1 ⟨F.o, 0, none⟩ v'
 have bo := h.ok.bo
 have hsz := h.sz
 have vb : ∀ k, v.ownBlock = some k -> F.o + 3 <= k := fun k e => (hr.lt k e).1
 have nb : ∀ k, k < F.o + 3 -> some k ≠ v.ownBlock := fun k hk e => by have := vb k e.symm; omega
 have hv1 := hv.kept hg (nb F.o (by omega))
 have so : F.o = F.w0.heap.size := rfl
 have step : ∀ k, k ≠ F.o -> k < F.o + 3 -> k < W.heap.size -> (w1.setCell ⟨F.o, 0, none⟩ v').heap[k]? = W.heap[k]? := fun k h1 h2 h3 =>
  (g.block k (Nat.lt_of_lt_of_le h3 hg.size) (fun q => h1 (Option.some.inj q))).trans (hg.block k h3 (nb k h2))
 refine ⟨hv1, ⟨h.ok, (step F.b (by omega) (by omega) h.bw.lt).trans h.bw, (step _ (by omega) (by omega) h.bs.lt).trans h.bs, (step _ (by omega) (by omega) h.bm.lt).trans h.bm, ⟨v', hv1.set v', ?_⟩, ?_⟩, ?_⟩
 ·show (w1.setCell ⟨F.o, 0, none⟩ v').ownsRow (F.o + 3) 5 1 v' (t.out ++ s).size (Lib.strCells (t.out ++ s))
  rw [ByteArray.size_append, X5]
  refine hown.kept g ?_
  rcases hown.2 with ⟨rfl, _⟩ | ⟨g', cap, cur, rfl, hb, _⟩
  ·exact Or.inl rfl
  ·refine Or.inr (fun q => ?_)
   have := Option.some.inj q
   simp only at this
   omega
 ·refine ⟨g.os.trans (hg.os.trans h.gr.os), g.tape.trans (hg.tape.trans h.gr.tape), g.output.trans (hg.output.trans h.gr.output), Nat.le_trans h.gr.size (Nat.le_trans hg.size g.size), fun k hk ne => ?_⟩
  exact (step k (by omega) (by omega) (Nat.lt_of_lt_of_le hk h.gr.size)).trans (h.gr.block k hk ne)
 ·refine KeepT.trans (KeepT.grown hg (fun k e arr fl hk => ?_)) (KeepT.grown g (fun k e arr fl hk => ?_))
  ·rcases hr.2 with ⟨rfl, _⟩ | ⟨g', cap, cur, rfl, _, hgb, _⟩
   ·cases e
   ·cases e
    rw [hgb] at hk
    cases hk
  ·cases e
   rw [show w1.heap[F.o]? = _ from hv1] at hk
   cases hk
set_option maxHeartbeats 8000000 in
set_option maxRecDepth 100000 in
theorem xT (F : Fix) (told : Bool) (t : Tel) (shn : Bool) (W : World) (h : FrSt F told t shn W) (s : ByteArray) (hs : t.out.size + s.size <= 100000000000000) :
  Calls Tryz.prog 45 #[.string s, .pointer (some ⟨F.o, 0, none⟩), .pointer (some ⟨F.p, 0, none⟩)] W fun e W' => (∃ v, e = .returned v) /\ FrSt F told (seqT t s) shn W' /\ KeepT W W' := by
 obtain ⟨i0, hi0, hz0, hz1, hz2⟩ := info_parts infoB
 obtain ⟨v, hv, hr⟩ := h.bo
 have cO := hv.cell
 have sz := h.sz
 have H := Vd h
 clear h
 go_enter Tryz.func45, Tryz.ntmps45
 go_wp2_with (at_builtin; refine Lib.wpList_append_own_string _ rfl (.tmp 4) (.tmp 5) 66 9 rfl (F.o + 3) 5 i0 Tryz.underlying66 Tryz.underlying9 hi0 hz0 hz1 hz2 _ _ _ rfl hr s rfl (by unfold maxLen; omega) (by omega) sz ?_; intro v' w1 hown' hgrow _; obtain ⟨A, c, rfl⟩ := qT hown'; obtain ⟨hv1, hf, hk⟩ := H.out.added hv hr hown' hgrow; have c1 := hv1.cell; have f1 := hv1.frozen; have pp := hf.bp.blk.c 0 _ rfl; have b15 := hf.bw.blk.c 15 _ rfl; have q15 := hf.bw.blk.f 15 _ rfl)
 go_end0
 obtain ⟨h1, h2⟩ := hf.setW (told' := told) (t' := seqT t s) (shn' := shn) 15 (.string zB) rfl rfl
 exact ⟨⟨_, rfl⟩, h1, hk.trans h2⟩
set_option maxHeartbeats 8000000 in
set_option maxRecDepth 100000 in
theorem f_move (F : Fix) (told : Bool) (t : Tel) (shn : Bool) (W : World) (h : FrSt F told t shn W) (x y : Int) (x0 : -10000000 <= x) (x1 : x <= 10000000) (y0 : -10000000 <= y) (y1 : y <= 10000000) (hs : t.out.size <= 90000000000000) :
  Calls Tryz.prog 46 #[.int .i64 x, .int .i64 y, .pointer (some ⟨F.o + 1, 0, none⟩), .pointer (some ⟨F.p, 0, none⟩)] W fun e W' => (∃ v, e = .returned v) /\ FrSt F told (jz t x y) shn W' /\ KeepT W W' := by
 have IY : Hid (∀ d os, Calls Tryz.prog 47 #[.int .i64 (y + 1)] (grow (redrawn W d) os) fun e w' => e = .returned (.string (itB (y + 1))) /\ qc (grow (redrawn W d) os) w') := Vd (fun d os => jB (vA (y + 1) (by omega) (by omega) _ (h.env.of_below (below_regrown W d os) Vf)))
 have IX : Hid (∀ d os, Calls Tryz.prog 47 #[.int .i64 (x + 1)] (grow (redrawn W d) os) fun e w' => e = .returned (.string (itB (x + 1))) /\ qc (grow (redrawn W d) os) w') := Vd (fun d os => jB (vA (x + 1) (by omega) (by omega) _ (h.env.of_below (below_regrown W d os) Vf)))
 have sy := jD (y + 1) (by omega) (by omega)
 have sx := jD (x + 1) (by omega) (by omega)
 have MB : Hid (zH x y = (((⟨#[27, 91]⟩ ++ itB (y + 1)) ++ ⟨#[59]⟩) ++ itB (x + 1)) ++ ⟨#[72]⟩) := Vd rfl
 generalize itB (y + 1) = a at *
 generalize itB (x + 1) = b at *
 have n1 : (9223372036854775807 < 2 + a.size) = False := eq_false (by omega)
 have n2 : (9223372036854775807 < 2 + a.size + 1) = False := eq_false (by omega)
 have n3 : (9223372036854775807 < 2 + a.size + 1 + b.size) = False := eq_false (by omega)
 have n4 : (9223372036854775807 < 2 + a.size + 1 + b.size + 1) = False := eq_false (by omega)
 have MS : Hid ((zH x y).size <= 100) := Vd (by
  rw [MB.out, ByteArray.size_append, ByteArray.size_append, ByteArray.size_append, ByteArray.size_append]
  have : (⟨#[27, 91]⟩ : ByteArray).size = 2 := rfl
  have : (⟨#[59]⟩ : ByteArray).size = 1 := rfl
  have : (⟨#[72]⟩ : ByteArray).size = 1 := rfl
  omega)
 have wy := Ve (y + 1) (by omega)
 have wx := Ve (x + 1) (by omega)
 have g6 := fun d os => (h.bs.blk.regrown d os).c 0 _ rfl
 have H := Vd h
 clear h
 go_enter Tryz.func46, Tryz.ntmps46
 go_wp2_with fail
 refine zn 11 [] [] (by kernel_rfl) (by kernel_rfl) (by kernel_rfl) (by intro t ht; cases ht) ?_
 simp only [Vg, Vh, Vi, Vj]
 repeat (refine ze (by rfl) (fun K hK => ?_); go_simp; first | (refine hK _ ?_; clear hK K) | (apply Exists.intro; refine ⟨fun _ => ?_, hK _ ?_⟩; (first | with_reducible exact IY.out _ _ | with_reducible exact IX.out _ _); clear hK K))
 refine zm ?_
 intro W5 vs5 hl hv
 have hb5 := zk.1 hl
 have H5 := Vd (H.out.below hb5)
 have K5 := Vd (KeepT.below hb5)
 clear hl hv hb5 g6 n1 n2 n3 n4
 simp only [zd]
 go_wp2_with fail
 rw [<- MB.out]
 refine (xT F told t shn W5 H5.out (zH x y) (by have := MS.out; omega)).mono ?_; rintro e W6 ⟨⟨v, rfl⟩, h6, k6⟩
 have H6 := Vd h6
 have K6 := Vd (K5.out.trans k6)
 clear h6 k6
 go_wp2_with fail
 have pc := H6.out.bp.blk.c 0 _ rfl
 have b9 := H6.out.bw.blk.c 9 _ rfl
 have q9 := H6.out.bw.blk.f 9 _ rfl
 have b10 := H6.out.bw.blk.c 10 _ rfl
 have q10 := H6.out.bw.blk.f 10 _ rfl
 have b8 := H6.out.bw.blk.c 8 _ rfl
 have q8 := H6.out.bw.blk.f 8 _ rfl
 have pb := H6.out.ok.pb
 have pb2 : F.b ≠ F.p := fun e => pb e.symm
 go_region
 go_wp2_with fail
 go_end0
 obtain ⟨a1, k1⟩ := H6.out.setW (told' := told) (t' := ⟨t.place, x, t.y, t.st, zB, t.out ++ zH x y⟩) (shn' := shn) 9 (.int .i64 x) rfl rfl
 obtain ⟨a2, k2⟩ := a1.setW (told' := told) (t' := ⟨t.place, x, y, t.st, zB, t.out ++ zH x y⟩) (shn' := shn) 10 (.int .i64 y) rfl rfl
 obtain ⟨a3, k3⟩ := a2.setW (told' := told) (t' := jz t x y) (shn' := shn) 8 (.bool true) rfl rfl
 have dr : ∀ X : World, Below X.heap.size X X.drew := fun X => (Below.refl _ X).drew
 exact ⟨⟨_, rfl⟩, a3.below (dr _), (((K6.out.trans k1).trans k2).trans k3).trans (KeepT.below (dr _))⟩
end
section
open Go Go.RowKit Go.Sort
section
theorem QN : (Tryz.prog.info? 58).map (fun i => (i.zero.map (·.cells), i.size, i.bytes)) = some (some #[.string ⟨#[]⟩, .int .i8 0, .int .i32 0, .int .i32 0, .int .u8 0], 5, 32) := by kernel_rfl
theorem QO {w : World} {base n : Nat} {T : TypeId} {v : Value} {xs : List Value} (h : w.ownsRow base T 5 v n xs) : ∃ A c, v = .slice A n c := by
 rcases h.2 with ⟨rfl, rfl⟩ | ⟨g, cap, cur, rfl, _⟩
 ·exact ⟨_, _, rfl⟩
 ·exact ⟨_, _, rfl⟩
theorem jG {w w' : World} {base n : Nat} {T : TypeId} {v : Value} {xs : List Value} (h : w.ownsRow base T 5 v n xs) (hb : Below w.heap.size w w') : w'.ownsRow base T 5 v n xs := by
 rcases h.2 with a | ⟨g, cap, cur, e1, e2, e3, e4⟩
 ·exact ⟨h.1, Or.inl a⟩
 ·exact ⟨h.1, Or.inr ⟨g, cap, cur, e1, e2, (hb.block g (Array.getElem?_eq_some_iff.1 e3).1).trans e3, e4⟩⟩
theorem vI {w : World} {LO sz n : Nat} {T : TypeId} {v : Value} {xs : List Value} (h : w.ownsRow LO T sz v n xs) {p : Addr} (hp : p.block < LO) (u : Value) : (w.setCell p u).ownsRow LO T sz v n xs := by
 rcases h.2 with a | ⟨g, cap, cur, e1, e2, e3, e4⟩
 ·exact ⟨h.1, Or.inl a⟩
 ·exact ⟨h.1, Or.inr ⟨g, cap, cur, e1, e2, (heap_setCell_other _ _ _ _ (fun z => by omega)).trans e3, e4⟩⟩
theorem app_cel {w : World} {LO n c : Nat} {A : Option Addr} {xs : List Value} (o : w.ownsRow LO 58 5 (.slice A n c) n xs) (x : Cel) (hLO : LO <= w.heap.size) (len : n <= 1000000000000) :
  ∃ A' c' w3, (Builtin.append_ #[22, 22] 22 #[.slice A n c, .slice (some ⟨w.heap.size, 0, none⟩) 1 1]).run Tryz.prog (w.alloc (.cells #[.string x.text, .int .i8 x.wide, .int .i32 x.st.fg, .int .i32 x.st.bg, .int .u8 (bI x.st.at_)] 58)) = .ok (.slice A' (n + 1) c') w3 /\
   w3.ownsRow LO 58 5 (.slice A' (n + 1) c') (n + 1) (xs ++ celV x) /\ Below LO w w3 := by
 obtain ⟨i0, hi0, hzz⟩ := Option.map_eq_some_iff.1 QN
 simp only [Prod.mk.injEq] at hzz
 obtain ⟨hz0, hz1, hz2⟩ := hzz
 obtain ⟨z0, hz3, hz4⟩ := Option.map_eq_some_iff.1 hz0
 have bu : Below w.heap.size w (w.alloc (.cells #[.string x.text, .int .i8 x.wide, .int .i32 x.st.fg, .int .i32 x.st.bg, .int .u8 (bI x.st.at_)] 58)) := (Below.refl _ w).alloc Vf _
 have o1 := jG o bu
 obtain ⟨v', w3, r1, r2, r3, r4⟩ := run_append_own (P := Tryz.prog) (w.alloc (.cells #[.string x.text, .int .i8 x.wide, .int .i32 x.st.fg, .int .i32 x.st.bg, .int .u8 (bI x.st.at_)] 58)) LO 22 22 58 i0 z0 5 32 Tryz.underlying22 hi0 hz3 hz1 hz2 (by rw [hz4]; rfl) (by decide) _ n xs o1 ⟨w.heap.size, 0, none⟩ 1 1 (celV x) rfl (qL w (celV x) _) (by intro u hu; simp [celV] at hu; rcases hu with rfl | rfl | rfl | rfl | rfl <;> rfl) (by unfold maxLen; omega) (by omega) (Nat.le_trans hLO bu.size)
 obtain ⟨A', c', e⟩ := QO r2
 subst e
 exact ⟨A', c', w3, r1, r2, (bu.mono hLO).grown r3 (Nat.le_trans hLO bu.size) (fun k hk => (o1.lt k hk).1)⟩
set_option maxHeartbeats 16000000 in
set_option maxRecDepth 100000 in
theorem X6 (s : Scr) (d : Int) (A : Option Addr) (c : Nat) (hl : s.cells.length <= 1000000000) (ok : ∀ x ∈ s.cells, okR x) (w : World) (S : Sees w w.heap.size A (zc s.cells)) :
  Calls Tryz.prog 22 #[scrV s A c, .int .i64 d] w fun e w' => ∃ A' c', e = .returned (scrV (redS s d) A' c') /\ w'.ownsRow w.heap.size 58 5 (.slice A' s.cells.length c') s.cells.length (zc (redL s.cells d)) /\ Below w.heap.size w w' := by
 obtain ⟨L, hL⟩ : ∃ L, L = s.cells := ⟨_, rfl⟩
 have RS : redS s d = ⟨s.w, s.h, redL L d, s.x, s.y, s.shown⟩ := by rw [hL]; rfl
 rw [RS]
 simp only [scrV]
 rw [<- hL] at hl ok S ⊢
 have rl : (redL L d).length = L.length := by unfold redL; rw [List.length_map]
 rw [rl]
 have HS := Vd S
 have HO := Vd ok
 obtain ⟨n, hn⟩ : ∃ n, n = L.length := ⟨_, rfl⟩
 have HN := Vd hn
 rw [<- hn] at hl ⊢
 clear S ok hL RS rl hn
 generalize s.w = sw at *
 generalize s.h = sh at *
 generalize s.x = sx at *
 generalize s.y = sy at *
 generalize s.shown = sn at *
 obtain ⟨Q0, hQ0⟩ : ∃ Q0, Q0 = w.alloc (.cells #[.int .i64 sw, .int .i64 sh, .slice A n c, .int .i64 sx, .int .i64 sy, .bool sn] 24) := ⟨_, rfl⟩
 have B0 : Below w.heap.size w Q0 := by rw [hQ0]; exact (Below.refl _ w).alloc Vf _
 have K0 : Blk Q0 w.heap.size [.int .i64 sw, .int .i64 sh, .slice A n c, .int .i64 sx, .int .i64 sy, .bool sn] := by rw [hQ0]; exact Blk.new w _ _
 have z0 : Q0.heap.size = w.heap.size + 1 := by rw [hQ0]; simp
 obtain ⟨Q, hQ⟩ : ∃ Q, Q = Q0.alloc (.cells #[.int .i64 0, .int .i64 0, .slice none 0 0, .int .i64 0, .int .i64 0, .bool false] 24) := ⟨_, rfl⟩
 have B1 : Below Q0.heap.size Q0 Q := by rw [hQ]; exact (Below.refl _ Q0).alloc Vf _
 have KA : Blk Q w.heap.size [.int .i64 sw, .int .i64 sh, .slice A n c, .int .i64 sx, .int .i64 sy, .bool sn] := K0.keep B1 (by omega)
 have KB : Blk Q (w.heap.size + 1) [.int .i64 0, .int .i64 0, .slice none 0 0, .int .i64 0, .int .i64 0, .bool false] := by rw [hQ, <- z0]; exact Blk.new Q0 _ _
 have z1 : Q.heap.size = w.heap.size + 2 := by rw [hQ]; simp [z0]
 have HQ := Vd (show Q = (w.alloc (.cells #[.int .i64 sw, .int .i64 sh, .slice A n c, .int .i64 sx, .int .i64 sy, .bool sn] 24)).alloc (.cells #[.int .i64 0, .int .i64 0, .slice none 0 0, .int .i64 0, .int .i64 0, .bool false] 24) by rw [hQ, hQ0])
 have HBQ := Vd (B0.trans (B1.mono B0.size))
 have HA := Vd KA
 have HC := Vd KB
 have ZS := Vd z1
 clear hQ hQ0 B0 B1 K0 KA KB z0 z1
 go_enter Tryz.func22, Tryz.ntmps22
 go_upto_region 1 with fail
 rw [<- HQ.out]
 clear HQ
 go_wp2_with fail
 go_loopw [5, 6] (fun s5 s6 wr => ∃ (i : Nat) (A' : Option Addr) (c' : Nat), i <= n /\ s5 = .slice A' i c' /\ s6 = .int .i64 (i : Int) /\ Hid (wr.ownsRow Q.heap.size 58 5 (.slice A' i c') i (zc (redL (L.take i) d))) /\ Hid (Below Q.heap.size Q wr)) (fun _ s6 _ => n - (intOf s6).toNat)
 case atStart => exact ⟨0, none, 0, Nat.zero_le _, rfl, rfl, Vd (World.ownsRow_nil _ _ _ _), Vd (Below.refl _ _)⟩
 case round =>
  obtain ⟨i, A', c', hi, rfl, rfl, ho, hb⟩ := hrel
  have kA := HA.out.keep hb.out (by rw [ZS.out]; omega)
  have a2 := kA.c 2 _ rfl
  have HkA := Vd kA
  have gq : w.heap.size < wr.heap.size := by have := hb.out.size; rw [ZS.out] at this; omega
  have HGQ := Vd gq
  clear kA gq
  by_cases lt : i < n
  ·have il : i < L.length := by rw [<- HN.out]; exact lt
   have ne : zc L ≠ [] := fun z => by have := congrArg List.length z; rw [jo] at this; simp at this; omega
   obtain ⟨ad, rfl, hab, _⟩ := HS.out ne
   have BW := HBQ.out.trans (hb.out.mono HBQ.out.size)
   obtain ⟨x0, x1, x2, x3, x4⟩ := jE (HS.out.below BW Vf) i il
   have tk : redL (L.take (i + 1)) d = redL (L.take i) d ++ [redC d L[i]] := by
    unfold redL
    rw [List.take_succ_eq_append_getElem il, List.map_append]
    rfl
   have okx := HO.out _ (List.getElem_mem il)
   have HTK := Vd tk
   generalize L[i] = x at *
   obtain ⟨tx, wd, f, b, a⟩ := x
   dsimp only at x0 x1 x2 x3 x4
   have RD := Vd (fun W => Xt ⟨f, b, a⟩ d okx.fg okx.bg W)
   obtain ⟨st, hst⟩ : ∃ st, st = zL ⟨f, b, a⟩ d := ⟨_, rfl⟩
   rw [<- hst] at RD
   have HST := Vd (show redC d ⟨tx, wd, f, b, a⟩ = ⟨tx, wd, st⟩ by rw [hst]; rfl)
   obtain ⟨V1, hV1⟩ : ∃ V1, V1 = wr.alloc (.cells #[.string tx, .int .i8 wd, .int .i32 f, .int .i32 b, .int .u8 (bI a)] 58) := ⟨_, rfl⟩
   have b1 : Below wr.heap.size wr V1 := by rw [hV1]; exact (Below.refl _ wr).alloc Vf _
   have K1 : Blk V1 wr.heap.size [.string tx, .int .i8 wd, .int .i32 f, .int .i32 b, .int .u8 (bI a)] := by rw [hV1]; exact Blk.new wr _ _
   have s1 : wr.heap.size < V1.heap.size := by rw [hV1]; simp
   have HV1 := Vd hV1
   have Hb1 := Vd b1
   have HK1 := Vd K1
   have HS1 := Vd s1
   have q0 : (0 : Int) <= (i : Int) := by omega
   have q5 : (i : Int) < (n : Int) := by omega
   have tn : (i : Int).toNat = i := by omega
   have wk := Ve ((i : Int) + 1) (by omega)
   clear ne BW tk okx hst hV1 b1 K1 s1
   go_upto_region 6 with fail
   rw [<- HV1.out]
   clear HV1 x0 x1 x2 x3 x4 a2
   have y2 := HK1.out.c 2 _ rfl
   have y3 := HK1.out.c 3 _ rfl
   have y4 := HK1.out.c 4 _ rfl
   have RD := Vd (RD.out V1)
   go_wp2_with fail
   refine RD.out.mono ?_; rintro e V2 ⟨rfl, h2⟩
   have K2 := HK1.out.keep h2 HS1.out
   have y2 := K2.c 2 _ rfl
   have y3 := K2.c 3 _ rfl
   have y4 := K2.c 4 _ rfl
   have f2 := K2.f 2 _ rfl
   have f3 := K2.f 3 _ rfl
   have f4 := K2.f 4 _ rfl
   obtain ⟨V3, hV3⟩ : ∃ V3, V3 = ((V2.setCell ⟨wr.heap.size, 2, none⟩ (.int .i32 st.fg)).setCell ⟨wr.heap.size, 3, none⟩ (.int .i32 st.bg)).setCell ⟨wr.heap.size, 4, none⟩ (.int .u8 (bI st.at_)) := ⟨_, rfl⟩
   have K3 : Blk V3 wr.heap.size [.string tx, .int .i8 wd, .int .i32 st.fg, .int .i32 st.bg, .int .u8 (bI st.at_)] := by
    rw [hV3]
    exact ((K2.set 2 (.int .i32 st.fg) _ rfl).set 3 (.int .i32 st.bg) _ rfl).set 4 (.int .u8 (bI st.at_)) _ rfl
   have B3 : Below wr.heap.size wr V3 := by
    rw [hV3]
    exact (((Hb1.out.trans (h2.mono Hb1.out.size)).setCell (p := ⟨wr.heap.size, 2, none⟩) Vf _).setCell (p := ⟨wr.heap.size, 3, none⟩) Vf _).setCell (p := ⟨wr.heap.size, 4, none⟩) Vf _
   have BQ3 := hb.out.trans (B3.mono hb.out.size)
   obtain ⟨A2, c2, w4, R, o4, b4⟩ := app_cel (jG ho.out B3) ⟨tx, wd, st⟩ BQ3.size (by omega)
   dsimp only at R
   have HV3 := Vd hV3
   have HO4 := Vd o4
   have HB4 := Vd (BQ3.trans b4)
   have CE := Vd (show zc (redL (L.take (i + 1)) d) = zc (redL (L.take i) d) ++ celV ⟨tx, wd, st⟩ by
    rw [HTK.out, HST.out, xq]
    simp [zc])
   have HK3 := Vd K3
   clear RD h2 K2 hV3 K3 B3 BQ3 o4 b4 ho hb
   go_upto_region 7 with fail
   rw [<- HV3.out]
   clear HV3 y2 y3 y4 f2 f3 f4
   have y0 := HK3.out.c 0 _ rfl
   have y1 := HK3.out.c 1 _ rfl
   have y2 := HK3.out.c 2 _ rfl
   have y3 := HK3.out.c 3 _ rfl
   have y4 := HK3.out.c 4 _ rfl
   go_wp2_with (first | (at_builtin; refine jr rfl (.tmp 25) (.tmp 27) 22 22 rfl _ _ _ _ rfl rfl R ?_) | fail)
   go_roundw
   case rel => exact ⟨i + 1, A2, c2, by omega, rfl, by go_num, by rw [CE.out]; exact HO4, HB4⟩
   case measure => simp [intOf]; omega
  ·have e : i = n := by omega
   subst e
   have q5 : ¬ (i : Int) < (i : Int) := by omega
   have f2 := HkA.out.f 2 _ rfl
   have kB := HC.out.keep hb.out (by rw [ZS.out]; omega)
   obtain ⟨V, hV⟩ : ∃ V, V = wr.setCell ⟨w.heap.size, 2, none⟩ (.slice A' i c') := ⟨_, rfl⟩
   have KV : Blk V w.heap.size [.int .i64 sw, .int .i64 sh, .slice A' i c', .int .i64 sx, .int .i64 sy, .bool sn] := by rw [hV]; exact HkA.out.set 2 _ _ rfl
   have KW : Blk V (w.heap.size + 1) [.int .i64 0, .int .i64 0, .slice none 0 0, .int .i64 0, .int .i64 0, .bool false] := by rw [hV]; exact kB.far (by omega)
   have BV : Below w.heap.size w V := by rw [hV]; exact (HBQ.out.trans (hb.out.mono HBQ.out.size)).setCell (p := ⟨w.heap.size, 2, none⟩) Vf _
   have ov : V.ownsRow Q.heap.size 58 5 (.slice A' i c') i (zc (redL L d)) := by
    have o := ho.out
    rw [HN.out, List.take_length, <- HN.out] at o
    rcases o.2 with a | ⟨g, cap, cur, e1, e2, e3, e4⟩
    ·exact ⟨o.1, Or.inl a⟩
    ·exact ⟨o.1, Or.inr ⟨g, cap, cur, e1, e2, by rw [hV]; exact (heap_setCell_other _ _ _ _ (fun z => by have z : g = w.heap.size := z; rw [ZS.out] at e2; omega)).trans e3, e4⟩⟩
   have HV := Vd hV
   have HOV := Vd ov
   have HBV := Vd BV
   have HZQ : Hid (w.heap.size + 1 < Q.heap.size) := Vd (by rw [ZS.out]; omega)
   have kv0 := KV.c 0 _ rfl
   have kv1 := KV.c 1 _ rfl
   have kv2 := KV.c 2 _ rfl
   have kv3 := KV.c 3 _ rfl
   have kv4 := KV.c 4 _ rfl
   have kv5 := KV.c 5 _ rfl
   have kw0 := KW.c 0 _ rfl
   have kw1 := KW.c 1 _ rfl
   have kw2 := KW.c 2 _ rfl
   have kw3 := KW.c 3 _ rfl
   have kw4 := KW.c 4 _ rfl
   have kw5 := KW.c 5 _ rfl
   have fw0 := KW.f 0 _ rfl
   have fw1 := KW.f 1 _ rfl
   have fw2 := KW.f 2 _ rfl
   have fw3 := KW.f 3 _ rfl
   have fw4 := KW.f 4 _ rfl
   have fw5 := KW.f 5 _ rfl
   clear hV KV KW BV ov ho hb kB
   go_upto_region 9 with fail
   rw [<- HV.out]
   clear HV a2 f2
   go_wp2_with fail
   refine bodyPost_ret (v := .agg #[.int .i64 sw, .int .i64 sh, .slice A' i c', .int .i64 sx, .int .i64 sy, .bool sn]) (by simp [results, Tryz.results22, go_sem, *]) rfl ?_
   refine ⟨A', c', rfl, ?_, ?_⟩
   ·refine je (base := Q.heap.size) ?_ (by have := HZQ.out; omega)
    repeat (refine vI ?_ HZQ.out _)
    exact HOV.out
   ·repeat (refine Below.setCell ?_ (p := ⟨w.heap.size + 1, _, none⟩) (Nat.le_succ _) _)
    exact HBV.out
end
end
end Go.Proofs.YtifoijbpbigaaaaGreatDoor
