/- The units that differ, the program's side: units (any visitor), Changed. -/
import Derived.Test.YtkllilehdpdbdaaDoorDgTn
import Derived.LoopTactic
import Derived.Test.YtkllilehdpdbdaaDoorStyS
import Derived.RangeFuncBox
namespace Go.Proofs.YtkllilehdpdbdaaDoor
open Go.RowKit Go.Sort
set_option linter.unusedVariables false
set_option linter.unusedSimpArgs false

theorem cel_ne2 {α : Sort _} {tx ty : ByteArray} {wx wy fx fy gx gy : Int} {ax ay : B8} (u v : α) (h : ¬ (⟨tx, wx, ⟨fx, gx, ax⟩⟩ : Cel) = ⟨ty, wy, ⟨fy, gy, ay⟩⟩) : (if tx.toList = ty.toList then if wx = wy then if fx = fy then if gx = gy then if bI ax = bI ay then u else v else v else v else v else v) = v := by
  by_cases c1 : tx.toList = ty.toList
  · rw [if_pos c1]
    by_cases c2 : wx = wy
    · rw [if_pos c2]
      by_cases c3 : fx = fy
      · rw [if_pos c3]
        by_cases c4 : gx = gy
        · rw [if_pos c4]
          by_cases c5 : bI ax = bI ay
          · exfalso; apply h
            have c1 : tx = ty := by
              rw [ByteArray.toList_eq, ByteArray.toList_eq] at c1
              exact ByteArray.ext (Array.toList_inj.1 c1)
            rw [c1, c2, c3, c4, bI_inj c5]
          · rw [if_neg c5]
        · rw [if_neg c4]
      · rw [if_neg c3]
    · rw [if_neg c2]
  · rw [if_neg c1]
theorem drop_two {α : Type} {l r : List α} {y y' : α} {k : Nat} (h : l.drop k = y :: y' :: r) : l.drop (k + 2) = r := by
  rw [← List.drop_drop, h]; rfl
theorem drop_one {α : Type} {l r : List α} {y : α} {k : Nat} (h : l.drop k = y :: r) : l.drop (k + 1) = r := by
  rw [← List.drop_drop, h]; rfl
theorem drop_get {α : Type} {l r : List α} {y : α} {k : Nat} (h : l.drop k = y :: r) : ∃ hk : k < l.length, l[k] = y := by
  have hk : k < l.length := by
    rcases Nat.lt_or_ge k l.length with z | z
    · exact z
    · rw [List.drop_eq_nil_of_le z] at h; cases h
  rw [List.drop_eq_getElem_cons hk] at h
  exact ⟨hk, (List.cons.inj h).1⟩

set_option maxHeartbeats 16000000 in
set_option maxRecDepth 100000 in
theorem d_dunits (f : Nat) (caps : Array Value) (hE : ∀ args w, (callFunc f args).run Tryd.prog w = .ok (.enter f args) w) (J : List (Nat × Nat) → World → Prop) (A1 A2 : Option Addr) (c1 c2 : Nat) (a b : List Cel) (hlen : a.length = b.length) (hN : b.length ≤ 1000000000000) (hrow : rowR b = true)
    (hJ : ∀ pre (i n : Nat) W, J pre W → (pre ++ [(i, n)]) <+: diffU 0 a b → (n = 1 ∨ n = 2) → Calls Tryd.prog f (#[.int .i64 i, .int .i64 n] ++ caps) W fun e W' => (∃ v, e = .returned v) ∧ J (pre ++ [(i, n)]) W')
    (hs : ∀ pre W, J pre W → Sees W W.heap.size A1 (celsV a) ∧ Sees W W.heap.size A2 (celsV b)) (hd : ∀ pre W W', J pre W → Below W.heap.size W W' → J pre W') (w : World) (h0 : J [] w) :
    Calls Tryd.prog 29 #[.slice A1 a.length c1, .slice A2 b.length c2, .func (.func f) #[] caps] w fun e w' => (∃ v, e = .returned v) ∧ J (diffU 0 a b) w' := by
  rw [hlen]
  obtain ⟨N, hNN⟩ : ∃ N, N = b.length := ⟨_, rfl⟩
  rw [← hNN] at hN ⊢
  have HN := Lib.hid hNN
  have HL := Lib.hid hlen
  have HR := Lib.hid hrow
  clear hNN hlen hrow
  go_enter Tryd.func29, Tryd.ntmps29
  go_wp2_with fail
  go_loopw [6, 7] (fun i n7 wr => ∃ (k : Nat) (pre : List (Nat × Nat)), k ≤ N ∧ i = .int .i64 k ∧ Hid (rowR (b.drop k) = true ∧ diffU 0 a b = pre ++ diffU k (a.drop k) (b.drop k) ∧ J pre wr)) (fun i _ _ => N - (intOf i).toNat)
  case atStart => exact ⟨0, [], Nat.zero_le _, rfl, Lib.hid ⟨HR.out, rfl, h0⟩⟩
  case round =>
    obtain ⟨k, pre, hk, rfl, hr⟩ := hrel
    clear h0
    by_cases lt : k < N
    · obtain ⟨r1, r2, r3⟩ := hr.out
      have SS := hs _ _ r3
      have JH := Lib.hid r3
      have kb : k < b.length := by rw [← HN.out]; exact lt
      have ka : k < a.length := by rw [HL.out]; exact kb
      obtain ⟨y, yr, hy⟩ : ∃ y yr, b.drop k = y :: yr := ⟨_, _, List.drop_eq_getElem_cons kb⟩
      obtain ⟨x, xr, hx⟩ : ∃ x xr, a.drop k = x :: xr := ⟨_, _, List.drop_eq_getElem_cons ka⟩
      obtain ⟨_, ey⟩ := drop_get hy
      obtain ⟨_, ex⟩ := drop_get hx
      have ly : (y :: yr).length = N - k := by rw [← hy, List.length_drop, ← HN.out]
      have lx : (x :: xr).length = N - k := by rw [← hx, List.length_drop, HL.out, ← HN.out]
      obtain ⟨ad, rfl, ab, z0, z1, z2, z3, z4⟩ := cel_nth SS.1 k ka
      obtain ⟨ae, rfl, bb, y0, y1, y2, y3, y4⟩ := cel_nth SS.2 k kb
      rw [ex] at z0 z1 z2 z3 z4
      rw [ey] at y0 y1 y2 y3 y4
      rw [hy] at r1
      rw [hx, hy] at r2
      rcases row_wide r1 with ⟨w2, y', yr', e', w0, rr⟩ | ⟨w1, rr⟩
      · subst e'
        obtain ⟨x', xr', e'⟩ : ∃ x' xr', xr = x' :: xr' := by
          cases xr with
          | nil => simp at lx ly; omega
          | cons p q => exact ⟨p, q, rfl⟩
        subst e'
        have k1 : k + 1 < N := by simp at ly; omega
        have hy1 := drop_one hy
        have hx1 := drop_one hx
        obtain ⟨kb1, ey1⟩ := drop_get hy1
        obtain ⟨ka1, ex1⟩ := drop_get hx1
        obtain ⟨ad', e', _, s0, s1, s2, s3, s4⟩ := cel_nth SS.1 (k + 1) ka1
        cases e'
        obtain ⟨ae', e', _, q0, q1, q2, q3, q4⟩ := cel_nth SS.2 (k + 1) kb1
        cases e'
        rw [ex1] at s0 s1 s2 s3 s4
        rw [ey1] at q0 q1 q2 q3 q4
        rw [diffU_pair k x x' y y' xr' yr' w2] at r2
        have RR : Hid (rowR (b.drop (k + 2)) = true) := Lib.hid (by rw [drop_two hy]; exact rr)
        have hX2 := drop_two hx
        have hY2 := drop_two hy
        rw [← hX2, ← hY2] at r2
        have wk : IntKind.i64.wrap ((k : Int) + 1) = (k : Int) + 1 := IntWalk.i64_in _ (by omega)
        have wk0 : (0 : Int) ≤ (k : Int) + 1 := by omega
        have wk1 : ((k : Int) + 1).toNat = k + 1 := by omega
        have wk2 : (k : Int) + 1 < (N : Int) := by omega
        have R2 := Lib.hid r2
        clear r1 r2 r3 rr SS hr ly lx hy hx hy1 hx1 ey ex ey1 ex1 hX2 hY2 kb ka kb1 ka1
        obtain ⟨ty, wy, ⟨fy, gy, ay⟩⟩ := y
        obtain ⟨tx, wx, ⟨fx, gx, ax⟩⟩ := x
        obtain ⟨ty', wy', ⟨fy', gy', ay'⟩⟩ := y'
        obtain ⟨tx', wx', ⟨fx', gx', ax'⟩⟩ := x'
        simp only at z0 z1 z2 z3 z4 y0 y1 y2 y3 y4 s0 s1 s2 s3 s4 q0 q1 q2 q3 q4 w2 w0
        subst w2 w0
        have y1h := y1
        go_upto_region 3 with fail
        clear y1h
        have z0 := fun d os => ((below_regrown wr d os).cell (p := ad.add (k * 5)) (by simp only [add_blk]; exact ab)).trans z0
        have z1 := fun d os => ((below_regrown wr d os).cell (p := ⟨(ad.add (k * 5)).block, (ad.add (k * 5)).off + 1, none⟩) (by simp only [add_blk]; exact ab)).trans z1
        have z2 := fun d os => ((below_regrown wr d os).cell (p := ⟨(ad.add (k * 5)).block, (ad.add (k * 5)).off + 2, none⟩) (by simp only [add_blk]; exact ab)).trans z2
        have z3 := fun d os => ((below_regrown wr d os).cell (p := ⟨(ad.add (k * 5)).block, (ad.add (k * 5)).off + 3, none⟩) (by simp only [add_blk]; exact ab)).trans z3
        have z4 := fun d os => ((below_regrown wr d os).cell (p := ⟨(ad.add (k * 5)).block, (ad.add (k * 5)).off + 4, none⟩) (by simp only [add_blk]; exact ab)).trans z4
        have y0 := fun d os => ((below_regrown wr d os).cell (p := ae.add (k * 5)) (by simp only [add_blk]; exact bb)).trans y0
        have y1 := fun d os => ((below_regrown wr d os).cell (p := ⟨(ae.add (k * 5)).block, (ae.add (k * 5)).off + 1, none⟩) (by simp only [add_blk]; exact bb)).trans y1
        have y2 := fun d os => ((below_regrown wr d os).cell (p := ⟨(ae.add (k * 5)).block, (ae.add (k * 5)).off + 2, none⟩) (by simp only [add_blk]; exact bb)).trans y2
        have y3 := fun d os => ((below_regrown wr d os).cell (p := ⟨(ae.add (k * 5)).block, (ae.add (k * 5)).off + 3, none⟩) (by simp only [add_blk]; exact bb)).trans y3
        have y4 := fun d os => ((below_regrown wr d os).cell (p := ⟨(ae.add (k * 5)).block, (ae.add (k * 5)).off + 4, none⟩) (by simp only [add_blk]; exact bb)).trans y4
        have s0 := fun d os => ((below_regrown wr d os).cell (p := ad.add ((k + 1) * 5)) (by simp only [add_blk]; exact ab)).trans s0
        have s1 := fun d os => ((below_regrown wr d os).cell (p := ⟨(ad.add ((k + 1) * 5)).block, (ad.add ((k + 1) * 5)).off + 1, none⟩) (by simp only [add_blk]; exact ab)).trans s1
        have s2 := fun d os => ((below_regrown wr d os).cell (p := ⟨(ad.add ((k + 1) * 5)).block, (ad.add ((k + 1) * 5)).off + 2, none⟩) (by simp only [add_blk]; exact ab)).trans s2
        have s3 := fun d os => ((below_regrown wr d os).cell (p := ⟨(ad.add ((k + 1) * 5)).block, (ad.add ((k + 1) * 5)).off + 3, none⟩) (by simp only [add_blk]; exact ab)).trans s3
        have s4 := fun d os => ((below_regrown wr d os).cell (p := ⟨(ad.add ((k + 1) * 5)).block, (ad.add ((k + 1) * 5)).off + 4, none⟩) (by simp only [add_blk]; exact ab)).trans s4
        have q0 := fun d os => ((below_regrown wr d os).cell (p := ae.add ((k + 1) * 5)) (by simp only [add_blk]; exact bb)).trans q0
        have q1 := fun d os => ((below_regrown wr d os).cell (p := ⟨(ae.add ((k + 1) * 5)).block, (ae.add ((k + 1) * 5)).off + 1, none⟩) (by simp only [add_blk]; exact bb)).trans q1
        have q2 := fun d os => ((below_regrown wr d os).cell (p := ⟨(ae.add ((k + 1) * 5)).block, (ae.add ((k + 1) * 5)).off + 2, none⟩) (by simp only [add_blk]; exact bb)).trans q2
        have q3 := fun d os => ((below_regrown wr d os).cell (p := ⟨(ae.add ((k + 1) * 5)).block, (ae.add ((k + 1) * 5)).off + 3, none⟩) (by simp only [add_blk]; exact bb)).trans q3
        have q4 := fun d os => ((below_regrown wr d os).cell (p := ⟨(ae.add ((k + 1) * 5)).block, (ae.add ((k + 1) * 5)).off + 4, none⟩) (by simp only [add_blk]; exact bb)).trans q4
        by_cases e1 : (⟨tx, wx, ⟨fx, gx, ax⟩⟩ : Cel) = ⟨ty, 2, ⟨fy, gy, ay⟩⟩
        · by_cases e2 : (⟨tx', wx', ⟨fx', gx', ax'⟩⟩ : Cel) = ⟨ty', 0, ⟨fy', gy', ay'⟩⟩
          · have DU : Hid (diffU 0 a b = pre ++ diffU (k + 2) (a.drop (k + 2)) (b.drop (k + 2))) := Lib.hid (by rw [R2.out, if_pos ⟨e1, e2⟩, List.nil_append])
            injection e1 with a1 a2 a3; injection a3 with a3 a4 a5
            injection e2 with d1 d2 d3; injection d3 with d3 d4 d5
            subst a1 a2 a3 a4 a5 d1 d2 d3 d4 d5
            refine wp_region_spec 25 [] [] (by kernel_rfl) (by kernel_rfl) (by kernel_rfl) (by intro t ht; cases ht) ?_
            simp only [List.take_succ_cons, List.take_zero, List.drop_succ_cons, List.drop_zero]
            repeat (refine wpS_step (by rfl) (fun K hK => ?_); go_simp; first | (refine hK _ ?_; clear hK K) | (apply Exists.intro; refine ⟨fun _ => ?_, hK _ ?_⟩; (fail); clear hK K))
            refine wpS_nil ?_
            intro W5 vs5 hl hv
            have J5 := Lib.hid (hd _ _ _ JH.out (later_below.1 hl))
            clear hl hv z0 z1 z2 z3 z4 y0 y1 y2 y3 y4 s0 s1 s2 s3 s4 q0 q1 q2 q3 q4
            simp only [fillA]
            go_wp2_with fail
            have NR : Hid (rowR (b.drop (k + 2)) = true ∧ diffU 0 a b = pre ++ diffU (k + 2) (a.drop (k + 2)) (b.drop (k + 2)) ∧ J pre W5) := Lib.hid ⟨RR.out, DU.out, J5.out⟩
            go_roundw
            case rel => exact ⟨k + 2, _, by omega, by go_num, NR⟩
            case measure => simp [intOf]; omega
          · have DU : Hid (diffU 0 a b = pre ++ ([(k, 2)] ++ diffU (k + 2) (a.drop (k + 2)) (b.drop (k + 2)))) := Lib.hid (by rw [R2.out, if_neg (fun h => e2 h.2)])
            injection e1 with a1 a2 a3; injection a3 with a3 a4 a5
            subst a1 a2 a3 a4 a5
            refine wp_region_spec 25 [] [] (by kernel_rfl) (by kernel_rfl) (by kernel_rfl) (by intro t ht; cases ht) ?_
            simp only [List.take_succ_cons, List.take_zero, List.drop_succ_cons, List.drop_zero]
            repeat (refine wpS_step (by rfl) (fun K hK => ?_); go_simp; first | (refine hK _ ?_; clear hK K) | (apply Exists.intro; refine ⟨fun _ => ?_, hK _ ?_⟩; (fail); clear hK K))
            refine wpS_step (by rfl) (fun K hK => ?_); go_simp
            refine ⟨.bool true, fun p => ?_, hK _ ?_⟩
            · rw [cel_ne2 _ _ e2]; exact ⟨rfl, rfl⟩
            clear hK K
            repeat (refine wpS_step (by rfl) (fun K hK => ?_); go_simp; first | (refine hK _ ?_; clear hK K) | (apply Exists.intro; refine ⟨fun _ => ?_, hK _ ?_⟩; (fail); clear hK K))
            refine wpS_nil ?_
            intro W5 vs5 hl hv
            have J5 := Lib.hid (hd _ _ _ JH.out (later_below.1 hl))
            clear hl hv z0 z1 z2 z3 z4 y0 y1 y2 y3 y4 s0 s1 s2 s3 s4 q0 q1 q2 q3 q4
            simp only [fillA]
            go_wp2_with fail
            refine (hJ _ k 2 W5 J5.out (by rw [DU.out]; exact ⟨diffU (k + 2) (a.drop (k + 2)) (b.drop (k + 2)), by simp⟩) (by omega)).mono ?_; rintro e W6 ⟨⟨v, rfl⟩, hj6⟩
            have NR : Hid (rowR (b.drop (k + 2)) = true ∧ diffU 0 a b = (pre ++ [(k, 2)]) ++ diffU (k + 2) (a.drop (k + 2)) (b.drop (k + 2)) ∧ J (pre ++ [(k, 2)]) W6) := Lib.hid ⟨RR.out, by rw [DU.out]; simp, hj6⟩
            clear hj6
            go_wp2_with fail
            go_roundw
            case rel => exact ⟨k + 2, _, by omega, by go_num, NR⟩
            case measure => simp [intOf]; omega
        · have DU : Hid (diffU 0 a b = pre ++ ([(k, 2)] ++ diffU (k + 2) (a.drop (k + 2)) (b.drop (k + 2)))) := Lib.hid (by rw [R2.out, if_neg (fun h => e1 h.1)])
          refine wp_region_spec 25 [] [] (by kernel_rfl) (by kernel_rfl) (by kernel_rfl) (by intro t ht; cases ht) ?_
          simp only [List.take_succ_cons, List.take_zero, List.drop_succ_cons, List.drop_zero]
          repeat (refine wpS_step (by rfl) (fun K hK => ?_); go_simp; first | (refine hK _ ?_; clear hK K) | (apply Exists.intro; refine ⟨fun _ => ?_, hK _ ?_⟩; (fail); clear hK K))
          refine wpS_step (by rfl) (fun K hK => ?_); go_simp
          refine ⟨.bool true, fun p => ?_, hK _ ?_⟩
          · rw [cel_ne2 _ _ e1]; exact ⟨rfl, rfl⟩
          clear hK K
          repeat (refine wpS_step (by rfl) (fun K hK => ?_); go_simp; first | (refine hK _ ?_; clear hK K) | (apply Exists.intro; refine ⟨fun _ => ?_, hK _ ?_⟩; (fail); clear hK K))
          refine wpS_nil ?_
          intro W5 vs5 hl hv
          have J5 := Lib.hid (hd _ _ _ JH.out (later_below.1 hl))
          clear hl hv z0 z1 z2 z3 z4 y0 y1 y2 y3 y4 s0 s1 s2 s3 s4 q0 q1 q2 q3 q4
          simp only [fillA]
          go_wp2_with fail
          refine (hJ _ k 2 W5 J5.out (by rw [DU.out]; exact ⟨diffU (k + 2) (a.drop (k + 2)) (b.drop (k + 2)), by simp⟩) (by omega)).mono ?_; rintro e W6 ⟨⟨v, rfl⟩, hj6⟩
          have NR : Hid (rowR (b.drop (k + 2)) = true ∧ diffU 0 a b = (pre ++ [(k, 2)]) ++ diffU (k + 2) (a.drop (k + 2)) (b.drop (k + 2)) ∧ J (pre ++ [(k, 2)]) W6) := Lib.hid ⟨RR.out, by rw [DU.out]; simp, hj6⟩
          clear hj6
          go_wp2_with fail
          go_roundw
          case rel => exact ⟨k + 2, _, by omega, by go_num, NR⟩
          case measure => simp [intOf]; omega
      · have ll : xr.length = yr.length := by simp at lx ly; omega
        rw [diffU_sing k x y xr yr (by rw [w1]; decide) ll] at r2
        have RR : Hid (rowR (b.drop (k + 1)) = true) := Lib.hid (by rw [drop_one hy]; exact rr)
        have hX2 := drop_one hx
        have hY2 := drop_one hy
        rw [← hX2, ← hY2] at r2
        have R2 := Lib.hid r2
        clear r1 r2 r3 rr SS hr ly lx ll hy hx ey ex hX2 hY2 kb ka
        obtain ⟨ty, wy, ⟨fy, gy, ay⟩⟩ := y
        obtain ⟨tx, wx, ⟨fx, gx, ax⟩⟩ := x
        simp only at z0 z1 z2 z3 z4 y0 y1 y2 y3 y4 w1
        subst w1
        have y1h := y1
        go_upto_region 3 with fail
        clear y1h
        have z0 := fun d os => ((below_regrown wr d os).cell (p := ad.add (k * 5)) (by simp only [add_blk]; exact ab)).trans z0
        have z1 := fun d os => ((below_regrown wr d os).cell (p := ⟨(ad.add (k * 5)).block, (ad.add (k * 5)).off + 1, none⟩) (by simp only [add_blk]; exact ab)).trans z1
        have z2 := fun d os => ((below_regrown wr d os).cell (p := ⟨(ad.add (k * 5)).block, (ad.add (k * 5)).off + 2, none⟩) (by simp only [add_blk]; exact ab)).trans z2
        have z3 := fun d os => ((below_regrown wr d os).cell (p := ⟨(ad.add (k * 5)).block, (ad.add (k * 5)).off + 3, none⟩) (by simp only [add_blk]; exact ab)).trans z3
        have z4 := fun d os => ((below_regrown wr d os).cell (p := ⟨(ad.add (k * 5)).block, (ad.add (k * 5)).off + 4, none⟩) (by simp only [add_blk]; exact ab)).trans z4
        have y0 := fun d os => ((below_regrown wr d os).cell (p := ae.add (k * 5)) (by simp only [add_blk]; exact bb)).trans y0
        have y1 := fun d os => ((below_regrown wr d os).cell (p := ⟨(ae.add (k * 5)).block, (ae.add (k * 5)).off + 1, none⟩) (by simp only [add_blk]; exact bb)).trans y1
        have y2 := fun d os => ((below_regrown wr d os).cell (p := ⟨(ae.add (k * 5)).block, (ae.add (k * 5)).off + 2, none⟩) (by simp only [add_blk]; exact bb)).trans y2
        have y3 := fun d os => ((below_regrown wr d os).cell (p := ⟨(ae.add (k * 5)).block, (ae.add (k * 5)).off + 3, none⟩) (by simp only [add_blk]; exact bb)).trans y3
        have y4 := fun d os => ((below_regrown wr d os).cell (p := ⟨(ae.add (k * 5)).block, (ae.add (k * 5)).off + 4, none⟩) (by simp only [add_blk]; exact bb)).trans y4
        by_cases e1 : (⟨tx, wx, ⟨fx, gx, ax⟩⟩ : Cel) = ⟨ty, 1, ⟨fy, gy, ay⟩⟩
        · have DU : Hid (diffU 0 a b = pre ++ diffU (k + 1) (a.drop (k + 1)) (b.drop (k + 1))) := Lib.hid (by rw [R2.out, if_pos e1, List.nil_append])
          injection e1 with a1 a2 a3; injection a3 with a3 a4 a5
          subst a1 a2 a3 a4 a5
          refine wp_region_spec 25 [] [] (by kernel_rfl) (by kernel_rfl) (by kernel_rfl) (by intro t ht; cases ht) ?_
          simp only [List.take_succ_cons, List.take_zero, List.drop_succ_cons, List.drop_zero]
          repeat (refine wpS_step (by rfl) (fun K hK => ?_); go_simp; first | (refine hK _ ?_; clear hK K) | (apply Exists.intro; refine ⟨fun _ => ?_, hK _ ?_⟩; (fail); clear hK K))
          refine wpS_nil ?_
          intro W5 vs5 hl hv
          have J5 := Lib.hid (hd _ _ _ JH.out (later_below.1 hl))
          clear hl hv z0 z1 z2 z3 z4 y0 y1 y2 y3 y4
          simp only [fillA]
          go_wp2_with fail
          have NR : Hid (rowR (b.drop (k + 1)) = true ∧ diffU 0 a b = pre ++ diffU (k + 1) (a.drop (k + 1)) (b.drop (k + 1)) ∧ J pre W5) := Lib.hid ⟨RR.out, DU.out, J5.out⟩
          go_roundw
          case rel => exact ⟨k + 1, _, by omega, by go_num, NR⟩
          case measure => simp [intOf]; omega
        · have DU : Hid (diffU 0 a b = pre ++ ([(k, 1)] ++ diffU (k + 1) (a.drop (k + 1)) (b.drop (k + 1)))) := Lib.hid (by rw [R2.out, if_neg e1])
          refine wp_region_spec 25 [] [] (by kernel_rfl) (by kernel_rfl) (by kernel_rfl) (by intro t ht; cases ht) ?_
          simp only [List.take_succ_cons, List.take_zero, List.drop_succ_cons, List.drop_zero]
          repeat (refine wpS_step (by rfl) (fun K hK => ?_); go_simp; first | (refine hK _ ?_; clear hK K) | (apply Exists.intro; refine ⟨fun _ => ?_, hK _ ?_⟩; (fail); clear hK K))
          refine wpS_step (by rfl) (fun K hK => ?_); go_simp
          refine ⟨.bool true, fun p => ?_, hK _ ?_⟩
          · rw [cel_ne2 _ _ e1]; exact ⟨rfl, rfl⟩
          clear hK K
          repeat (refine wpS_step (by rfl) (fun K hK => ?_); go_simp; first | (refine hK _ ?_; clear hK K) | (apply Exists.intro; refine ⟨fun _ => ?_, hK _ ?_⟩; (fail); clear hK K))
          refine wpS_nil ?_
          intro W5 vs5 hl hv
          have J5 := Lib.hid (hd _ _ _ JH.out (later_below.1 hl))
          clear hl hv z0 z1 z2 z3 z4 y0 y1 y2 y3 y4
          simp only [fillA]
          go_wp2_with fail
          refine (hJ _ k 1 W5 J5.out (by rw [DU.out]; exact ⟨diffU (k + 1) (a.drop (k + 1)) (b.drop (k + 1)), by simp⟩) (by omega)).mono ?_; rintro e W6 ⟨⟨v, rfl⟩, hj6⟩
          have NR : Hid (rowR (b.drop (k + 1)) = true ∧ diffU 0 a b = (pre ++ [(k, 1)]) ++ diffU (k + 1) (a.drop (k + 1)) (b.drop (k + 1)) ∧ J (pre ++ [(k, 1)]) W6) := Lib.hid ⟨RR.out, by rw [DU.out]; simp, hj6⟩
          clear hj6
          go_wp2_with fail
          go_roundw
          case rel => exact ⟨k + 1, _, by omega, by go_num, NR⟩
          case measure => simp [intOf]; omega
    · have e : k = N := by omega
      subst e
      obtain ⟨r1, r2, r3⟩ := hr.out
      rw [show b.drop k = [] from List.drop_eq_nil_of_le (by rw [← HN.out]; exact Nat.le_refl _), diffU_nil, List.append_nil] at r2
      have R := Lib.hid (show J (diffU 0 a b) wr by rw [r2]; exact r3)
      clear r1 r2 r3 hr
      go_wp2_with fail
      go_end0
      exact ⟨⟨_, rfl⟩, R.out⟩
end Go.Proofs.YtkllilehdpdbdaaDoor

/- What has changed, the program's side: Changed. -/
namespace Go.Proofs.YtkllilehdpdbdaaDoor
open Go Go.RowKit Go.Sort
set_option linter.unusedVariables false
set_option linter.unusedSimpArgs false

def upL (i n : Nat) : List Int := (List.range n).map fun k => ((i + k : Nat) : Int)
theorem upL_succ (i n : Nat) : upL i (n + 1) = upL i n ++ [((i + n : Nat) : Int)] := by simp [upL, List.range_succ]
theorem upL_len (i n : Nat) : (upL i n).length = n := by simp [upL]
theorem chg_snoc (pre : List (Nat × Nat)) (i n : Nat) : chgL (pre ++ [(i, n)]) = chgL pre ++ upL i n := by rw [chg_app]; simp [chgL, upL]
/-- a row of numbers behind a box -/
def BoxRow (W : World) (n0 g : Nat) (l : List Int) : Prop := ∃ v, Boxed W g 74 v ∧ W.ownsRow n0 3 1 v l.length (ints l)
theorem BoxRow.keep {W W' : World} {n0 g : Nat} {l : List Int} (h : BoxRow W n0 g l) (hb : Below W.heap.size W W') : BoxRow W' n0 g l := by
  obtain ⟨v, h1, h2⟩ := h
  exact ⟨v, (hb.block g h1.lt).trans h1, own_call h2 hb⟩

theorem chg_len (l : List Cel) (h : rowR l = true) : ∀ i k, k.length = l.length → (chgL (diffU i k l)).length ≤ l.length :=
  row_ind (P := fun l => ∀ i k, k.length = l.length → (chgL (diffU i k l)).length ≤ l.length)
    (fun i k _ => by rw [diffU_nil]; exact Nat.le_refl _)
    (fun a l s _ q i k e => by
      cases k with
      | nil => cases e
      | cons b k =>
        simp only [List.length_cons, Nat.add_right_cancel_iff] at e
        rw [diffU_sing i b a k l (by rw [(sing_parts s).1]; decide) e, chg_app, List.length_append]
        have q1 := q (i + 1) k e
        simp only [List.length_cons]
        split
        · simp [chgL] at *; omega
        · rw [chg_one]; simp; omega)
    (fun a b l p _ q i k e => by
      cases k with
      | nil => cases e
      | cons c k =>
        cases k with
        | nil => cases e
        | cons d k =>
          simp only [List.length_cons, Nat.add_right_cancel_iff] at e
          rw [diffU_pair i c d a b k l (pair_parts p).1, chg_app, List.length_append]
          have q1 := q (i + 2) k e
          simp only [List.length_cons]
          split
          · simp [chgL] at *; omega
          · rw [chg_two]; simp; omega)
    l.length l (Nat.le_refl _) h
theorem chg_pre {a b : List Cel} (h : rowR b = true) (e : a.length = b.length) {pre : List (Nat × Nat)} {i n : Nat} (hp : (pre ++ [(i, n)]) <+: diffU 0 a b) (hn : n = 1 ∨ n = 2) : (chgL pre).length ≤ b.length ∧ i + n ≤ b.length := by
  obtain ⟨r, hr⟩ := hp
  have h1 := chg_len b h 0 a e
  have h2 := (chg_range b h 0 a e).1
  rw [← hr, chg_app, chg_snoc] at h1 h2
  refine ⟨by simp only [List.length_append] at h1; omega, ?_⟩
  have h3 := h2 (((i + (n - 1) : Nat)) : Int) (by
    refine List.mem_append_left _ (List.mem_append_right _ ?_)
    unfold upL
    exact List.mem_map.2 ⟨n - 1, List.mem_range.2 (by omega), rfl⟩)
  omega

def changedC (a b : Scr) : Int := if rightS a = false ∨ rightS b = false then 180 else if a.w ≠ b.w ∨ a.h ≠ b.h then 5 else 0
def changedL (a b : Scr) : List Int := if changedC a b = 0 then chgL (diffU 0 a.cells b.cells) else []
/-- a screen at hand -/
structure ScrAt (w : World) (B : Nat) (s : Scr) (A : Option Addr) (c : Nat) : Prop where
  cap : s.cells.length ≤ c
  nil : A = none → c = 0
  len : s.cells.length ≤ 1000000000000
  ok : ∀ x ∈ s.cells, okC x
  sees : Sees w B A (celsV s.cells)
theorem ScrAt.below {w w' : World} {B : Nat} {s : Scr} {A : Option Addr} {c : Nat} (h : ScrAt w B s A c) (hb : Below B w w') : ScrAt w' B s A c := ⟨h.cap, h.nil, h.len, h.ok, h.sees.below hb (Nat.le_refl _)⟩
theorem ScrAt.more {w : World} {B B' : Nat} {s : Scr} {A : Option Addr} {c : Nat} (h : ScrAt w B s A c) (hb : B ≤ B') : ScrAt w B' s A c := ⟨h.cap, h.nil, h.len, h.ok, h.sees.more hb⟩
theorem d_RightAt (s : Scr) (A : Option Addr) (c : Nat) (w : World) (h : ScrAt w w.heap.size s A c) : Calls Tryd.prog 14 #[scrV s A c] w fun e w' => e = .returned (.bool (rightS s)) ∧ Below w.heap.size w w' :=
  d_Right s A c h.cap h.nil h.len h.ok w h.sees

end Go.Proofs.YtkllilehdpdbdaaDoor
