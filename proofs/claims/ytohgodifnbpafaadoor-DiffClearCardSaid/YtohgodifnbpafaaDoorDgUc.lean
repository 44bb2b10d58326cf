/- The units that differ, the program's side: units (any visitor), Changed. -/
import Derived.Test.YtohgodifnbpafaaDoorDgTn
import Derived.LoopTactic
import Derived.Test.YtohgodifnbpafaaDoorStyS
import Derived.RangeFuncBox
namespace Go.Proofs.YtohgodifnbpafaaDoor
open Go.RowKit Go.Sort
set_option linter.unusedVariables false
set_option linter.unusedSimpArgs false

theorem cel_ne2 {α : Sort _} {tx ty : ByteArray} {wx wy fx fy gx gy : Int} {ax ay : B8} (u v : α) (h : ¬ (⟨tx, wx, ⟨fx, gx, ax⟩⟩ : Cel) = ⟨ty, wy, ⟨fy, gy, ay⟩⟩) : (if tx.toList = ty.toList then if wx = wy then if fx = fy then if gx = gy then if bI ax = bI ay then u else v else v else v else v else v) = v := by
  by_cases c1 : tx.toList = ty.toList
  · rw [if_pos c1]
    by_cases c2 : wx = wy
    · rw [if_pos c2]
      by_cases c3 : fx = fy
      · rw [if_pos c3]
        by_cases c4 : gx = gy
        · rw [if_pos c4]
          by_cases c5 : bI ax = bI ay
          · exfalso; apply h
            have c1 : tx = ty := by
              rw [ByteArray.toList_eq, ByteArray.toList_eq] at c1
              exact ByteArray.ext (Array.toList_inj.1 c1)
            rw [c1, c2, c3, c4, bI_inj c5]
          · rw [if_neg c5]
        · rw [if_neg c4]
      · rw [if_neg c3]
    · rw [if_neg c2]
  · rw [if_neg c1]
theorem drop_two {α : Type} {l r : List α} {y y' : α} {k : Nat} (h : l.drop k = y :: y' :: r) : l.drop (k + 2) = r := by
  rw [← List.drop_drop, h]; rfl
theorem drop_one {α : Type} {l r : List α} {y : α} {k : Nat} (h : l.drop k = y :: r) : l.drop (k + 1) = r := by
  rw [← List.drop_drop, h]; rfl
theorem drop_get {α : Type} {l r : List α} {y : α} {k : Nat} (h : l.drop k = y :: r) : ∃ hk : k < l.length, l[k] = y := by
  have hk : k < l.length := by
    rcases Nat.lt_or_ge k l.length with z | z
    · exact z
    · rw [List.drop_eq_nil_of_le z] at h; cases h
  rw [List.drop_eq_getElem_cons hk] at h
  exact ⟨hk, (List.cons.inj h).1⟩

set_option maxHeartbeats 16000000 in
set_option maxRecDepth 100000 in
theorem d_dunits (f : Nat) (caps : Array Value) (hE : ∀ args w, (callFunc f args).run Tryd.prog w = .ok (.enter f args) w) (J : List (Nat × Nat) → World → Prop) (A1 A2 : Option Addr) (c1 c2 : Nat) (a b : List Cel) (hlen : a.length = b.length) (hN : b.length ≤ 1000000000000) (hrow : rowR b = true)
    (hJ : ∀ pre (i n : Nat) W, J pre W → (pre ++ [(i, n)]) <+: diffU 0 a b → (n = 1 ∨ n = 2) → Calls Tryd.prog f (#[.int .i64 i, .int .i64 n] ++ caps) W fun e W' => (∃ v, e = .returned v) ∧ J (pre ++ [(i, n)]) W')
    (hs : ∀ pre W, J pre W → Sees W W.heap.size A1 (celsV a) ∧ Sees W W.heap.size A2 (celsV b)) (hd : ∀ pre W W', J pre W → Below W.heap.size W W' → J pre W') (w : World) (h0 : J [] w) :
    Calls Tryd.prog 22 #[.slice A1 a.length c1, .slice A2 b.length c2, .func (.func f) #[] caps] w fun e w' => (∃ v, e = .returned v) ∧ J (diffU 0 a b) w' := by
  rw [hlen]
  obtain ⟨N, hNN⟩ : ∃ N, N = b.length := ⟨_, rfl⟩
  rw [← hNN] at hN ⊢
  have HN := Lib.hid hNN
  have HL := Lib.hid hlen
  have HR := Lib.hid hrow
  clear hNN hlen hrow
  go_enter Tryd.func22, Tryd.ntmps22
  go_wp2_with fail
  go_loopw [6, 7] (fun i n7 wr => ∃ (k : Nat) (pre : List (Nat × Nat)), k ≤ N ∧ i = .int .i64 k ∧ Hid (rowR (b.drop k) = true ∧ diffU 0 a b = pre ++ diffU k (a.drop k) (b.drop k) ∧ J pre wr)) (fun i _ _ => N - (intOf i).toNat)
  case atStart => exact ⟨0, [], Nat.zero_le _, rfl, Lib.hid ⟨HR.out, rfl, h0⟩⟩
  case round =>
    obtain ⟨k, pre, hk, rfl, hr⟩ := hrel
    clear h0
    by_cases lt : k < N
    · obtain ⟨r1, r2, r3⟩ := hr.out
      have SS := hs _ _ r3
      have JH := Lib.hid r3
      have kb : k < b.length := by rw [← HN.out]; exact lt
      have ka : k < a.length := by rw [HL.out]; exact kb
      obtain ⟨y, yr, hy⟩ : ∃ y yr, b.drop k = y :: yr := ⟨_, _, List.drop_eq_getElem_cons kb⟩
      obtain ⟨x, xr, hx⟩ : ∃ x xr, a.drop k = x :: xr := ⟨_, _, List.drop_eq_getElem_cons ka⟩
      obtain ⟨_, ey⟩ := drop_get hy
      obtain ⟨_, ex⟩ := drop_get hx
      have ly : (y :: yr).length = N - k := by rw [← hy, List.length_drop, ← HN.out]
      have lx : (x :: xr).length = N - k := by rw [← hx, List.length_drop, HL.out, ← HN.out]
      obtain ⟨ad, rfl, ab, z0, z1, z2, z3, z4⟩ := cel_nth SS.1 k ka
      obtain ⟨ae, rfl, bb, y0, y1, y2, y3, y4⟩ := cel_nth SS.2 k kb
      rw [ex] at z0 z1 z2 z3 z4
      rw [ey] at y0 y1 y2 y3 y4
      rw [hy] at r1
      rw [hx, hy] at r2
      rcases row_wide r1 with ⟨w2, y', yr', e', w0, rr⟩ | ⟨w1, rr⟩
      · subst e'
        obtain ⟨x', xr', e'⟩ : ∃ x' xr', xr = x' :: xr' := by
          cases xr with
          | nil => simp at lx ly; omega
          | cons p q => exact ⟨p, q, rfl⟩
        subst e'
        have k1 : k + 1 < N := by simp at ly; omega
        have hy1 := drop_one hy
        have hx1 := drop_one hx
        obtain ⟨kb1, ey1⟩ := drop_get hy1
        obtain ⟨ka1, ex1⟩ := drop_get hx1
        obtain ⟨ad', e', _, s0, s1, s2, s3, s4⟩ := cel_nth SS.1 (k + 1) ka1
        cases e'
        obtain ⟨ae', e', _, q0, q1, q2, q3, q4⟩ := cel_nth SS.2 (k + 1) kb1
        cases e'
        rw [ex1] at s0 s1 s2 s3 s4
        rw [ey1] at q0 q1 q2 q3 q4
        rw [diffU_pair k x x' y y' xr' yr' w2] at r2
        have RR : Hid (rowR (b.drop (k + 2)) = true) := Lib.hid (by rw [drop_two hy]; exact rr)
        have hX2 := drop_two hx
        have hY2 := drop_two hy
        rw [← hX2, ← hY2] at r2
        have wk : IntKind.i64.wrap ((k : Int) + 1) = (k : Int) + 1 := IntWalk.i64_in _ (by omega)
        have wk0 : (0 : Int) ≤ (k : Int) + 1 := by omega
        have wk1 : ((k : Int) + 1).toNat = k + 1 := by omega
        have wk2 : (k : Int) + 1 < (N : Int) := by omega
        have R2 := Lib.hid r2
        clear r1 r2 r3 rr SS hr ly lx hy hx hy1 hx1 ey ex ey1 ex1 hX2 hY2 kb ka kb1 ka1
        obtain ⟨ty, wy, ⟨fy, gy, ay⟩⟩ := y
        obtain ⟨tx, wx, ⟨fx, gx, ax⟩⟩ := x
        obtain ⟨ty', wy', ⟨fy', gy', ay'⟩⟩ := y'
        obtain ⟨tx', wx', ⟨fx', gx', ax'⟩⟩ := x'
        simp only at z0 z1 z2 z3 z4 y0 y1 y2 y3 y4 s0 s1 s2 s3 s4 q0 q1 q2 q3 q4 w2 w0
        subst w2 w0
        have y1h := y1
        go_upto_region 3 with fail
        clear y1h
        have z0 := fun d os => ((below_regrown wr d os).cell (p := ad.add (k * 5)) (by simp only [add_blk]; exact ab)).trans z0
        have z1 := fun d os => ((below_regrown wr d os).cell (p := ⟨(ad.add (k * 5)).block, (ad.add (k * 5)).off + 1, none⟩) (by simp only [add_blk]; exact ab)).trans z1
        have z2 := fun d os => ((below_regrown wr d os).cell (p := ⟨(ad.add (k * 5)).block, (ad.add (k * 5)).off + 2, none⟩) (by simp only [add_blk]; exact ab)).trans z2
        have z3 := fun d os => ((below_regrown wr d os).cell (p := ⟨(ad.add (k * 5)).block, (ad.add (k * 5)).off + 3, none⟩) (by simp only [add_blk]; exact ab)).trans z3
        have z4 := fun d os => ((below_regrown wr d os).cell (p := ⟨(ad.add (k * 5)).block, (ad.add (k * 5)).off + 4, none⟩) (by simp only [add_blk]; exact ab)).trans z4
        have y0 := fun d os => ((below_regrown wr d os).cell (p := ae.add (k * 5)) (by simp only [add_blk]; exact bb)).trans y0
        have y1 := fun d os => ((below_regrown wr d os).cell (p := ⟨(ae.add (k * 5)).block, (ae.add (k * 5)).off + 1, none⟩) (by simp only [add_blk]; exact bb)).trans y1
        have y2 := fun d os => ((below_regrown wr d os).cell (p := ⟨(ae.add (k * 5)).block, (ae.add (k * 5)).off + 2, none⟩) (by simp only [add_blk]; exact bb)).trans y2
        have y3 := fun d os => ((below_regrown wr d os).cell (p := ⟨(ae.add (k * 5)).block, (ae.add (k * 5)).off + 3, none⟩) (by simp only [add_blk]; exact bb)).trans y3
        have y4 := fun d os => ((below_regrown wr d os).cell (p := ⟨(ae.add (k * 5)).block, (ae.add (k * 5)).off + 4, none⟩) (by simp only [add_blk]; exact bb)).trans y4
        have s0 := fun d os => ((below_regrown wr d os).cell (p := ad.add ((k + 1) * 5)) (by simp only [add_blk]; exact ab)).trans s0
        have s1 := fun d os => ((below_regrown wr d os).cell (p := ⟨(ad.add ((k + 1) * 5)).block, (ad.add ((k + 1) * 5)).off + 1, none⟩) (by simp only [add_blk]; exact ab)).trans s1
        have s2 := fun d os => ((below_regrown wr d os).cell (p := ⟨(ad.add ((k + 1) * 5)).block, (ad.add ((k + 1) * 5)).off + 2, none⟩) (by simp only [add_blk]; exact ab)).trans s2
        have s3 := fun d os => ((below_regrown wr d os).cell (p := ⟨(ad.add ((k + 1) * 5)).block, (ad.add ((k + 1) * 5)).off + 3, none⟩) (by simp only [add_blk]; exact ab)).trans s3
        have s4 := fun d os => ((below_regrown wr d os).cell (p := ⟨(ad.add ((k + 1) * 5)).block, (ad.add ((k + 1) * 5)).off + 4, none⟩) (by simp only [add_blk]; exact ab)).trans s4
        have q0 := fun d os => ((below_regrown wr d os).cell (p := ae.add ((k + 1) * 5)) (by simp only [add_blk]; exact bb)).trans q0
        have q1 := fun d os => ((below_regrown wr d os).cell (p := ⟨(ae.add ((k + 1) * 5)).block, (ae.add ((k + 1) * 5)).off + 1, none⟩) (by simp only [add_blk]; exact bb)).trans q1
        have q2 := fun d os => ((below_regrown wr d os).cell (p := ⟨(ae.add ((k + 1) * 5)).block, (ae.add ((k + 1) * 5)).off + 2, none⟩) (by simp only [add_blk]; exact bb)).trans q2
        have q3 := fun d os => ((below_regrown wr d os).cell (p := ⟨(ae.add ((k + 1) * 5)).block, (ae.add ((k + 1) * 5)).off + 3, none⟩) (by simp only [add_blk]; exact bb)).trans q3
        have q4 := fun d os => ((below_regrown wr d os).cell (p := ⟨(ae.add ((k + 1) * 5)).block, (ae.add ((k + 1) * 5)).off + 4, none⟩) (by simp only [add_blk]; exact bb)).trans q4
        by_cases e1 : (⟨tx, wx, ⟨fx, gx, ax⟩⟩ : Cel) = ⟨ty, 2, ⟨fy, gy, ay⟩⟩
        · by_cases e2 : (⟨tx', wx', ⟨fx', gx', ax'⟩⟩ : Cel) = ⟨ty', 0, ⟨fy', gy', ay'⟩⟩
          · have DU : Hid (diffU 0 a b = pre ++ diffU (k + 2) (a.drop (k + 2)) (b.drop (k + 2))) := Lib.hid (by rw [R2.out, if_pos ⟨e1, e2⟩, List.nil_append])
            injection e1 with a1 a2 a3; injection a3 with a3 a4 a5
            injection e2 with d1 d2 d3; injection d3 with d3 d4 d5
            subst a1 a2 a3 a4 a5 d1 d2 d3 d4 d5
            refine wp_region_spec 25 [] [] (by kernel_rfl) (by kernel_rfl) (by kernel_rfl) (by intro t ht; cases ht) ?_
            simp only [List.take_succ_cons, List.take_zero, List.drop_succ_cons, List.drop_zero]
            repeat (refine wpS_step (by rfl) (fun K hK => ?_); go_simp; first | (refine hK _ ?_; clear hK K) | (apply Exists.intro; refine ⟨fun _ => ?_, hK _ ?_⟩; (fail); clear hK K))
            refine wpS_nil ?_
            intro W5 vs5 hl hv
            have J5 := Lib.hid (hd _ _ _ JH.out (later_below.1 hl))
            clear hl hv z0 z1 z2 z3 z4 y0 y1 y2 y3 y4 s0 s1 s2 s3 s4 q0 q1 q2 q3 q4
            simp only [fillA]
            go_wp2_with fail
            have NR : Hid (rowR (b.drop (k + 2)) = true ∧ diffU 0 a b = pre ++ diffU (k + 2) (a.drop (k + 2)) (b.drop (k + 2)) ∧ J pre W5) := Lib.hid ⟨RR.out, DU.out, J5.out⟩
            go_roundw
            case rel => exact ⟨k + 2, _, by omega, by go_num, NR⟩
            case measure => simp [intOf]; omega
          · have DU : Hid (diffU 0 a b = pre ++ ([(k, 2)] ++ diffU (k + 2) (a.drop (k + 2)) (b.drop (k + 2)))) := Lib.hid (by rw [R2.out, if_neg (fun h => e2 h.2)])
            injection e1 with a1 a2 a3; injection a3 with a3 a4 a5
            subst a1 a2 a3 a4 a5
            refine wp_region_spec 25 [] [] (by kernel_rfl) (by kernel_rfl) (by kernel_rfl) (by intro t ht; cases ht) ?_
            simp only [List.take_succ_cons, List.take_zero, List.drop_succ_cons, List.drop_zero]
            repeat (refine wpS_step (by rfl) (fun K hK => ?_); go_simp; first | (refine hK _ ?_; clear hK K) | (apply Exists.intro; refine ⟨fun _ => ?_, hK _ ?_⟩; (fail); clear hK K))
            refine wpS_step (by rfl) (fun K hK => ?_); go_simp
            refine ⟨.bool true, fun p => ?_, hK _ ?_⟩
            · rw [cel_ne2 _ _ e2]; exact ⟨rfl, rfl⟩
            clear hK K
            repeat (refine wpS_step (by rfl) (fun K hK => ?_); go_simp; first | (refine hK _ ?_; clear hK K) | (apply Exists.intro; refine ⟨fun _ => ?_, hK _ ?_⟩; (fail); clear hK K))
            refine wpS_nil ?_
            intro W5 vs5 hl hv
            have J5 := Lib.hid (hd _ _ _ JH.out (later_below.1 hl))
            clear hl hv z0 z1 z2 z3 z4 y0 y1 y2 y3 y4 s0 s1 s2 s3 s4 q0 q1 q2 q3 q4
            simp only [fillA]
            go_wp2_with fail
            refine (hJ _ k 2 W5 J5.out (by rw [DU.out]; exact ⟨diffU (k + 2) (a.drop (k + 2)) (b.drop (k + 2)), by simp⟩) (by omega)).mono ?_; rintro e W6 ⟨⟨v, rfl⟩, hj6⟩
            have NR : Hid (rowR (b.drop (k + 2)) = true ∧ diffU 0 a b = (pre ++ [(k, 2)]) ++ diffU (k + 2) (a.drop (k + 2)) (b.drop (k + 2)) ∧ J (pre ++ [(k, 2)]) W6) := Lib.hid ⟨RR.out, by rw [DU.out]; simp, hj6⟩
            clear hj6
            go_wp2_with fail
            go_roundw
            case rel => exact ⟨k + 2, _, by omega, by go_num, NR⟩
            case measure => simp [intOf]; omega
        · have DU : Hid (diffU 0 a b = pre ++ ([(k, 2)] ++ diffU (k + 2) (a.drop (k + 2)) (b.drop (k + 2)))) := Lib.hid (by rw [R2.out, if_neg (fun h => e1 h.1)])
          refine wp_region_spec 25 [] [] (by kernel_rfl) (by kernel_rfl) (by kernel_rfl) (by intro t ht; cases ht) ?_
          simp only [List.take_succ_cons, List.take_zero, List.drop_succ_cons, List.drop_zero]
          repeat (refine wpS_step (by rfl) (fun K hK => ?_); go_simp; first | (refine hK _ ?_; clear hK K) | (apply Exists.intro; refine ⟨fun _ => ?_, hK _ ?_⟩; (fail); clear hK K))
          refine wpS_step (by rfl) (fun K hK => ?_); go_simp
          refine ⟨.bool true, fun p => ?_, hK _ ?_⟩
          · rw [cel_ne2 _ _ e1]; exact ⟨rfl, rfl⟩
          clear hK K
          repeat (refine wpS_step (by rfl) (fun K hK => ?_); go_simp; first | (refine hK _ ?_; clear hK K) | (apply Exists.intro; refine ⟨fun _ => ?_, hK _ ?_⟩; (fail); clear hK K))
          refine wpS_nil ?_
          intro W5 vs5 hl hv
          have J5 := Lib.hid (hd _ _ _ JH.out (later_below.1 hl))
          clear hl hv z0 z1 z2 z3 z4 y0 y1 y2 y3 y4 s0 s1 s2 s3 s4 q0 q1 q2 q3 q4
          simp only [fillA]
          go_wp2_with fail
          refine (hJ _ k 2 W5 J5.out (by rw [DU.out]; exact ⟨diffU (k + 2) (a.drop (k + 2)) (b.drop (k + 2)), by simp⟩) (by omega)).mono ?_; rintro e W6 ⟨⟨v, rfl⟩, hj6⟩
          have NR : Hid (rowR (b.drop (k + 2)) = true ∧ diffU 0 a b = (pre ++ [(k, 2)]) ++ diffU (k + 2) (a.drop (k + 2)) (b.drop (k + 2)) ∧ J (pre ++ [(k, 2)]) W6) := Lib.hid ⟨RR.out, by rw [DU.out]; simp, hj6⟩
          clear hj6
          go_wp2_with fail
          go_roundw
          case rel => exact ⟨k + 2, _, by omega, by go_num, NR⟩
          case measure => simp [intOf]; omega
      · have ll : xr.length = yr.length := by simp at lx ly; omega
        rw [diffU_sing k x y xr yr (by rw [w1]; decide) ll] at r2
        have RR : Hid (rowR (b.drop (k + 1)) = true) := Lib.hid (by rw [drop_one hy]; exact rr)
        have hX2 := drop_one hx
        have hY2 := drop_one hy
        rw [← hX2, ← hY2] at r2
        have R2 := Lib.hid r2
        clear r1 r2 r3 rr SS hr ly lx ll hy hx ey ex hX2 hY2 kb ka
        obtain ⟨ty, wy, ⟨fy, gy, ay⟩⟩ := y
        obtain ⟨tx, wx, ⟨fx, gx, ax⟩⟩ := x
        simp only at z0 z1 z2 z3 z4 y0 y1 y2 y3 y4 w1
        subst w1
        have y1h := y1
        go_upto_region 3 with fail
        clear y1h
        have z0 := fun d os => ((below_regrown wr d os).cell (p := ad.add (k * 5)) (by simp only [add_blk]; exact ab)).trans z0
        have z1 := fun d os => ((below_regrown wr d os).cell (p := ⟨(ad.add (k * 5)).block, (ad.add (k * 5)).off + 1, none⟩) (by simp only [add_blk]; exact ab)).trans z1
        have z2 := fun d os => ((below_regrown wr d os).cell (p := ⟨(ad.add (k * 5)).block, (ad.add (k * 5)).off + 2, none⟩) (by simp only [add_blk]; exact ab)).trans z2
        have z3 := fun d os => ((below_regrown wr d os).cell (p := ⟨(ad.add (k * 5)).block, (ad.add (k * 5)).off + 3, none⟩) (by simp only [add_blk]; exact ab)).trans z3
        have z4 := fun d os => ((below_regrown wr d os).cell (p := ⟨(ad.add (k * 5)).block, (ad.add (k * 5)).off + 4, none⟩) (by simp only [add_blk]; exact ab)).trans z4
        have y0 := fun d os => ((below_regrown wr d os).cell (p := ae.add (k * 5)) (by simp only [add_blk]; exact bb)).trans y0
        have y1 := fun d os => ((below_regrown wr d os).cell (p := ⟨(ae.add (k * 5)).block, (ae.add (k * 5)).off + 1, none⟩) (by simp only [add_blk]; exact bb)).trans y1
        have y2 := fun d os => ((below_regrown wr d os).cell (p := ⟨(ae.add (k * 5)).block, (ae.add (k * 5)).off + 2, none⟩) (by simp only [add_blk]; exact bb)).trans y2
        have y3 := fun d os => ((below_regrown wr d os).cell (p := ⟨(ae.add (k * 5)).block, (ae.add (k * 5)).off + 3, none⟩) (by simp only [add_blk]; exact bb)).trans y3
        have y4 := fun d os => ((below_regrown wr d os).cell (p := ⟨(ae.add (k * 5)).block, (ae.add (k * 5)).off + 4, none⟩) (by simp only [add_blk]; exact bb)).trans y4
        by_cases e1 : (⟨tx, wx, ⟨fx, gx, ax⟩⟩ : Cel) = ⟨ty, 1, ⟨fy, gy, ay⟩⟩
        · have DU : Hid (diffU 0 a b = pre ++ diffU (k + 1) (a.drop (k + 1)) (b.drop (k + 1))) := Lib.hid (by rw [R2.out, if_pos e1, List.nil_append])
          injection e1 with a1 a2 a3; injection a3 with a3 a4 a5
          subst a1 a2 a3 a4 a5
          refine wp_region_spec 25 [] [] (by kernel_rfl) (by kernel_rfl) (by kernel_rfl) (by intro t ht; cases ht) ?_
          simp only [List.take_succ_cons, List.take_zero, List.drop_succ_cons, List.drop_zero]
          repeat (refine wpS_step (by rfl) (fun K hK => ?_); go_simp; first | (refine hK _ ?_; clear hK K) | (apply Exists.intro; refine ⟨fun _ => ?_, hK _ ?_⟩; (fail); clear hK K))
          refine wpS_nil ?_
          intro W5 vs5 hl hv
          have J5 := Lib.hid (hd _ _ _ JH.out (later_below.1 hl))
          clear hl hv z0 z1 z2 z3 z4 y0 y1 y2 y3 y4
          simp only [fillA]
          go_wp2_with fail
          have NR : Hid (rowR (b.drop (k + 1)) = true ∧ diffU 0 a b = pre ++ diffU (k + 1) (a.drop (k + 1)) (b.drop (k + 1)) ∧ J pre W5) := Lib.hid ⟨RR.out, DU.out, J5.out⟩
          go_roundw
          case rel => exact ⟨k + 1, _, by omega, by go_num, NR⟩
          case measure => simp [intOf]; omega
        · have DU : Hid (diffU 0 a b = pre ++ ([(k, 1)] ++ diffU (k + 1) (a.drop (k + 1)) (b.drop (k + 1)))) := Lib.hid (by rw [R2.out, if_neg e1])
          refine wp_region_spec 25 [] [] (by kernel_rfl) (by kernel_rfl) (by kernel_rfl) (by intro t ht; cases ht) ?_
          simp only [List.take_succ_cons, List.take_zero, List.drop_succ_cons, List.drop_zero]
          repeat (refine wpS_step (by rfl) (fun K hK => ?_); go_simp; first | (refine hK _ ?_; clear hK K) | (apply Exists.intro; refine ⟨fun _ => ?_, hK _ ?_⟩; (fail); clear hK K))
          refine wpS_step (by rfl) (fun K hK => ?_); go_simp
          refine ⟨.bool true, fun p => ?_, hK _ ?_⟩
          · rw [cel_ne2 _ _ e1]; exact ⟨rfl, rfl⟩
          clear hK K
          repeat (refine wpS_step (by rfl) (fun K hK => ?_); go_simp; first | (refine hK _ ?_; clear hK K) | (apply Exists.intro; refine ⟨fun _ => ?_, hK _ ?_⟩; (fail); clear hK K))
          refine wpS_nil ?_
          intro W5 vs5 hl hv
          have J5 := Lib.hid (hd _ _ _ JH.out (later_below.1 hl))
          clear hl hv z0 z1 z2 z3 z4 y0 y1 y2 y3 y4
          simp only [fillA]
          go_wp2_with fail
          refine (hJ _ k 1 W5 J5.out (by rw [DU.out]; exact ⟨diffU (k + 1) (a.drop (k + 1)) (b.drop (k + 1)), by simp⟩) (by omega)).mono ?_; rintro e W6 ⟨⟨v, rfl⟩, hj6⟩
          have NR : Hid (rowR (b.drop (k + 1)) = true ∧ diffU 0 a b = (pre ++ [(k, 1)]) ++ diffU (k + 1) (a.drop (k + 1)) (b.drop (k + 1)) ∧ J (pre ++ [(k, 1)]) W6) := Lib.hid ⟨RR.out, by rw [DU.out]; simp, hj6⟩
          clear hj6
          go_wp2_with fail
          go_roundw
          case rel => exact ⟨k + 1, _, by omega, by go_num, NR⟩
          case measure => simp [intOf]; omega
    · have e : k = N := by omega
      subst e
      obtain ⟨r1, r2, r3⟩ := hr.out
      rw [show b.drop k = [] from List.drop_eq_nil_of_le (by rw [← HN.out]; exact Nat.le_refl _), diffU_nil, List.append_nil] at r2
      have R := Lib.hid (show J (diffU 0 a b) wr by rw [r2]; exact r3)
      clear r1 r2 r3 hr
      go_wp2_with fail
      go_end0
      exact ⟨⟨_, rfl⟩, R.out⟩
end Go.Proofs.YtohgodifnbpafaaDoor

/- What has changed, the program's side: Changed. -/
namespace Go.Proofs.YtohgodifnbpafaaDoor
open Go Go.RowKit Go.Sort
set_option linter.unusedVariables false
set_option linter.unusedSimpArgs false

def upL (i n : Nat) : List Int := (List.range n).map fun k => ((i + k : Nat) : Int)
theorem upL_succ (i n : Nat) : upL i (n + 1) = upL i n ++ [((i + n : Nat) : Int)] := by simp [upL, List.range_succ]
theorem upL_len (i n : Nat) : (upL i n).length = n := by simp [upL]
theorem chg_snoc (pre : List (Nat × Nat)) (i n : Nat) : chgL (pre ++ [(i, n)]) = chgL pre ++ upL i n := by rw [chg_app]; simp [chgL, upL]
/-- a row of numbers behind a box -/
def BoxRow (W : World) (n0 g : Nat) (l : List Int) : Prop := ∃ v, Boxed W g 32 v ∧ W.ownsRow n0 3 1 v l.length (ints l)
theorem BoxRow.keep {W W' : World} {n0 g : Nat} {l : List Int} (h : BoxRow W n0 g l) (hb : Below W.heap.size W W') : BoxRow W' n0 g l := by
  obtain ⟨v, h1, h2⟩ := h
  exact ⟨v, (hb.block g h1.lt).trans h1, own_call h2 hb⟩

set_option maxHeartbeats 8000000 in
set_option maxRecDepth 100000 in
theorem d_chg1 (n0 g : Nat) (l : List Int) (i n : Nat) (hn : n = 1 ∨ n = 2) (hi : i ≤ 1000000000000) (hl : l.length ≤ 1000000000000) (w : World) (hr : BoxRow w n0 g l) (h0 : n0 ≤ w.heap.size) (hg : n0 ≤ g) :
    Calls Tryd.prog 23 #[.int .i64 i, .int .i64 n, .pointer (some ⟨g, 0, none⟩)] w fun e w' => (∃ v, e = .returned v) ∧ BoxRow w' n0 g (l ++ upL i n) ∧ Below n0 w w' := by
  obtain ⟨i0, hi0, hz0, hz1, hz2⟩ := info_parts infoI
  have HR := Lib.hid hr
  clear hr
  go_enter Tryd.func23, Tryd.ntmps23
  go_wp2_with fail
  go_loopw [5, 7] (fun _ j wr => ∃ k : Nat, k ≤ n ∧ j = .int .i64 k ∧ Hid (BoxRow wr n0 g (l ++ upL i k) ∧ Below n0 w wr ∧ n0 ≤ wr.heap.size)) (fun _ j _ => n - (intOf j).toNat)
  case atStart => exact ⟨0, Nat.zero_le _, rfl, Lib.hid ⟨by simpa [upL] using HR.out, Below.refl _ _, h0⟩⟩
  case round =>
    obtain ⟨k, hk, rfl, hq⟩ := hrel
    clear h0
    by_cases lt : k < n
    · obtain ⟨⟨v, hv, hrow⟩, hb, hsz⟩ := hq.out
      have cO := hv.cell
      have HB := Lib.hid hb
      have k2 : k ≤ 1 := by omega
      have len : (l ++ upL i k).length = l.length + k := by rw [List.length_append, upL_len]
      have NX : Hid (ints (l ++ upL i k) ++ [.int .i64 ((i : Int) + (k : Int))] = ints (l ++ upL i (k + 1))) := Lib.hid (by
        rw [upL_succ, ← List.append_assoc]
        simp [ints])
      have LX : Hid (l.length + k + 1 = (l ++ upL i (k + 1)).length) := Lib.hid (by rw [List.length_append, upL_len]; omega)
      rw [len] at hrow
      generalize l.length = m at *
      clear hb hq len
      go_wp2_with (at_builtin; refine wpList_append_own _ rfl (.tmp 10) (.tmp 14) 32 rfl n0 3 i0 (.int .i64 0) 1 8 Tryd.underlying32 hi0 hz0 hz1 hz2 rfl (by decide) _ (m + k) _ rfl (hrow.alloc _) ⟨wr.heap.size, 0, none⟩ 1 1 [.int .i64 ((i : Int) + (k : Int))] rfl rfl (cells_new wr _ _) (by simp [Value.oneCell']) (by unfold maxLen; omega) (by omega) (by simp; omega) ?_; intro v' w3 hown' hgrow _; obtain ⟨g', cap', rfl⟩ := ownsRow_succ hown'; obtain ⟨hv1, hv2, hr2, hk2, hb2⟩ := hv.appended (show 32 ≠ 3 by decide) hrow hsz hg hown' hgrow; have hc1 := hv1.cell; have hf1 := hv1.frozen)
      exact ⟨⟨k + 1, by omega, by go_num, Lib.hid ⟨⟨_, hv2, by rw [← LX.out, ← NX.out]; exact hr2⟩, HB.out.trans hb2, Nat.le_trans hsz hb2.size⟩⟩, by simp [intOf]; omega⟩
    · have e : k = n := by omega
      subst e
      obtain ⟨h1, h2, h3⟩ := hq.out
      have H1 := Lib.hid h1
      have H2 := Lib.hid h2
      clear h1 h2 h3 hq
      go_wp2_with fail
      go_end0
      exact ⟨⟨_, rfl⟩, H1.out, H2.out⟩
theorem chg_len (l : List Cel) (h : rowR l = true) : ∀ i k, k.length = l.length → (chgL (diffU i k l)).length ≤ l.length :=
  row_ind (P := fun l => ∀ i k, k.length = l.length → (chgL (diffU i k l)).length ≤ l.length)
    (fun i k _ => by rw [diffU_nil]; exact Nat.le_refl _)
    (fun a l s _ q i k e => by
      cases k with
      | nil => cases e
      | cons b k =>
        simp only [List.length_cons, Nat.add_right_cancel_iff] at e
        rw [diffU_sing i b a k l (by rw [(sing_parts s).1]; decide) e, chg_app, List.length_append]
        have q1 := q (i + 1) k e
        simp only [List.length_cons]
        split
        · simp [chgL] at *; omega
        · rw [chg_one]; simp; omega)
    (fun a b l p _ q i k e => by
      cases k with
      | nil => cases e
      | cons c k =>
        cases k with
        | nil => cases e
        | cons d k =>
          simp only [List.length_cons, Nat.add_right_cancel_iff] at e
          rw [diffU_pair i c d a b k l (pair_parts p).1, chg_app, List.length_append]
          have q1 := q (i + 2) k e
          simp only [List.length_cons]
          split
          · simp [chgL] at *; omega
          · rw [chg_two]; simp; omega)
    l.length l (Nat.le_refl _) h
theorem chg_pre {a b : List Cel} (h : rowR b = true) (e : a.length = b.length) {pre : List (Nat × Nat)} {i n : Nat} (hp : (pre ++ [(i, n)]) <+: diffU 0 a b) (hn : n = 1 ∨ n = 2) : (chgL pre).length ≤ b.length ∧ i + n ≤ b.length := by
  obtain ⟨r, hr⟩ := hp
  have h1 := chg_len b h 0 a e
  have h2 := (chg_range b h 0 a e).1
  rw [← hr, chg_app, chg_snoc] at h1 h2
  refine ⟨by simp only [List.length_append] at h1; omega, ?_⟩
  have h3 := h2 (((i + (n - 1) : Nat)) : Int) (by
    refine List.mem_append_left _ (List.mem_append_right _ ?_)
    unfold upL
    exact List.mem_map.2 ⟨n - 1, List.mem_range.2 (by omega), rfl⟩)
  omega

def changedC (a b : Scr) : Int := if rightS a = false ∨ rightS b = false then 180 else if a.w ≠ b.w ∨ a.h ≠ b.h then 5 else 0
def changedL (a b : Scr) : List Int := if changedC a b = 0 then chgL (diffU 0 a.cells b.cells) else []
/-- a screen at hand -/
structure ScrAt (w : World) (B : Nat) (s : Scr) (A : Option Addr) (c : Nat) : Prop where
  cap : s.cells.length ≤ c
  nil : A = none → c = 0
  len : s.cells.length ≤ 1000000000000
  ok : ∀ x ∈ s.cells, okC x
  sees : Sees w B A (celsV s.cells)
theorem ScrAt.below {w w' : World} {B : Nat} {s : Scr} {A : Option Addr} {c : Nat} (h : ScrAt w B s A c) (hb : Below B w w') : ScrAt w' B s A c := ⟨h.cap, h.nil, h.len, h.ok, h.sees.below hb (Nat.le_refl _)⟩
theorem ScrAt.more {w : World} {B B' : Nat} {s : Scr} {A : Option Addr} {c : Nat} (h : ScrAt w B s A c) (hb : B ≤ B') : ScrAt w B' s A c := ⟨h.cap, h.nil, h.len, h.ok, h.sees.more hb⟩
theorem d_RightAt (s : Scr) (A : Option Addr) (c : Nat) (w : World) (h : ScrAt w w.heap.size s A c) : Calls Tryd.prog 10 #[scrV s A c] w fun e w' => e = .returned (.bool (rightS s)) ∧ Below w.heap.size w w' :=
  d_Right s A c h.cap h.nil h.len h.ok w h.sees

set_option maxHeartbeats 16000000 in
set_option maxRecDepth 100000 in
theorem d_Changed (a b : Scr) (A1 A2 : Option Addr) (c1 c2 : Nat) (w : World) (ha : ScrAt w w.heap.size a A1 c1) (hb : ScrAt w w.heap.size b A2 c2) :
    Calls Tryd.prog 11 #[scrV a A1 c1, scrV b A2 c2] w fun e w' => ∃ v, e = .returned (.tuple #[v, .int .i64 (changedC a b)]) ∧ w'.ownsRow w.heap.size 3 1 v (changedL a b).length (ints (changedL a b)) ∧ Below w.heap.size w w' := by
  have hmf : ∀ (fn : Fn) (first cap : Array Value) (w : World), (Instr.makeFunc fn first cap).run Tryd.prog w = .ok (.func fn first cap) w := fun _ _ _ _ => rfl
  obtain ⟨Q, hQ⟩ : ∃ Q, Q = (w.alloc (.cells #[.int .i64 a.w, .int .i64 a.h, .slice A1 a.cells.length c1, .int .i64 a.x, .int .i64 a.y, .bool a.shown] 25)).alloc (.cells #[.int .i64 b.w, .int .i64 b.h, .slice A2 b.cells.length c2, .int .i64 b.x, .int .i64 b.y, .bool b.shown] 25) := ⟨_, rfl⟩
  have BQ : Below w.heap.size w Q := by rw [hQ]; exact ((Below.refl _ w).alloc (Nat.le_refl _) _).alloc (by simp) _
  have K1 : Hid (Blk Q w.heap.size [.int .i64 a.w, .int .i64 a.h, .slice A1 a.cells.length c1, .int .i64 a.x, .int .i64 a.y, .bool a.shown]) := Lib.hid (by
    rw [hQ]
    exact (Blk.new w [.int .i64 a.w, .int .i64 a.h, .slice A1 a.cells.length c1, .int .i64 a.x, .int .i64 a.y, .bool a.shown] 25).alloc _)
  have K2 : Hid (Blk Q (w.heap.size + 1) [.int .i64 b.w, .int .i64 b.h, .slice A2 b.cells.length c2, .int .i64 b.x, .int .i64 b.y, .bool b.shown]) := Lib.hid (by
    have := Blk.new (w.alloc (.cells #[.int .i64 a.w, .int .i64 a.h, .slice A1 a.cells.length c1, .int .i64 a.x, .int .i64 a.y, .bool a.shown] 25)) [.int .i64 b.w, .int .i64 b.h, .slice A2 b.cells.length c2, .int .i64 b.x, .int .i64 b.y, .bool b.shown] 25
    have e : (w.alloc (.cells #[.int .i64 a.w, .int .i64 a.h, .slice A1 a.cells.length c1, .int .i64 a.x, .int .i64 a.y, .bool a.shown] 25)).heap.size = w.heap.size + 1 := by simp
    rw [e] at this
    rw [hQ]
    exact this)
  have R1 := Lib.hid (d_RightAt a A1 c1 Q ((ha.below BQ).more BQ.size))
  have R2 := Lib.hid (fun W (h : Below w.heap.size w W) => d_RightAt b A2 c2 W ((hb.below h).more h.size))
  have C0 : Hid (∀ x y, rightS a = x → rightS b = y → (x = false ∨ y = false) → changedC a b = 180 ∧ changedL a b = []) := Lib.hid (fun x y h1 h2 h => by
    have e : changedC a b = 180 := by unfold changedC; rw [if_pos (by rw [h1, h2]; exact h)]
    exact ⟨e, by unfold changedL; rw [e]; rfl⟩)
  have HB := Lib.hid BQ
  have HA1 := Lib.hid ha
  have HB1 := Lib.hid hb
  simp only [scrV] at R1 R2 ⊢
  clear ha hb BQ
  cases ra : rightS a with
  | false =>
    obtain ⟨e1, e2⟩ := C0.out false _ ra rfl (Or.inl rfl)
    rw [ra] at R1
    rw [e1, e2]
    clear ra e1 e2
    go_enter Tryd.func11, Tryd.ntmps11
    go_wp2_with fail
    rw [← hQ]
    clear hQ
    refine R1.out.mono ?_; rintro e w1 ⟨rfl, hb1⟩
    have BB := Lib.hid (HB.out.trans (hb1.mono HB.out.size))
    clear hb1
    go_wp2_with fail
    go_ret2
    exact ⟨_, rfl, World.ownsRow_nil _ _ _ _, BB.out⟩
  | true =>
    rw [ra] at R1
    go_enter Tryd.func11, Tryd.ntmps11
    go_wp2_with fail
    rw [← hQ]
    clear hQ
    refine R1.out.mono ?_; rintro e w1 ⟨rfl, hb1⟩
    have B1 := Lib.hid (HB.out.trans (hb1.mono HB.out.size))
    have K1 := Lib.hid (K1.out.keep hb1 K1.out.lt)
    have K2 := Lib.hid (K2.out.keep hb1 K2.out.lt)
    have y0 := K2.out.c 0 _ rfl
    have y1 := K2.out.c 1 _ rfl
    have y2 := K2.out.c 2 _ rfl
    have y3 := K2.out.c 3 _ rfl
    have y4 := K2.out.c 4 _ rfl
    have y5 := K2.out.c 5 _ rfl
    clear hb1
    go_wp2_with fail
    refine (R2.out w1 B1.out).mono ?_; rintro e w2 ⟨rfl, hb2⟩
    have B2 := Lib.hid (B1.out.trans (hb2.mono B1.out.size))
    have K1 := K1.out.keep hb2 K1.out.lt
    have K2 := K2.out.keep hb2 K2.out.lt
    have x0 := K1.c 0 _ rfl
    have x1 := K1.c 1 _ rfl
    have x2 := K1.c 2 _ rfl
    have y0 := K2.c 0 _ rfl
    have y1 := K2.c 1 _ rfl
    have y2 := K2.c 2 _ rfl
    have KK1 := Lib.hid K1
    have KK2 := Lib.hid K2
    clear hb2 K1 K2
    cases rb : rightS b with
    | false =>
      obtain ⟨e1, e2⟩ := C0.out true false ra rb (Or.inr rfl)
      have E1 := Lib.hid e1
      have E2 := Lib.hid e2
      clear e1 e2 rb ra
      go_wp2_with fail
      go_ret2
      rw [E1.out, E2.out]
      exact ⟨_, rfl, World.ownsRow_nil _ _ _ _, B2.out⟩
    | true =>
      by_cases sz : a.w = b.w ∧ a.h = b.h
      · obtain ⟨ew, eh⟩ := sz
        have e1 : changedC a b = 0 := by unfold changedC; rw [ra, rb]; simp [ew, eh]
        have e2 : changedL a b = chgL (diffU 0 a.cells b.cells) := by unfold changedL; rw [if_pos e1]
        have len : a.cells.length = b.cells.length := by
          have h1 := (right_parts ra).2.1
          have h2 := (right_parts rb).2.1
          rw [ew, eh] at h1
          omega
        have rowb := right_row rb
        have g1 : (a.w != b.w) = false := by rw [ew]; simp
        have g2 : (a.h != b.h) = false := by rw [eh]; simp
        have E1 := Lib.hid e1
        have E2 := Lib.hid e2
        obtain ⟨X, hX⟩ : ∃ X, X = w2.alloc (.cells #[.slice none 0 0] 32) := ⟨_, rfl⟩
        have bX : Boxed X w2.heap.size 32 (.slice none 0 0) := by rw [hX]; exact Boxed.new w2 _ _
        have BX : Below w.heap.size w X := by rw [hX]; exact B2.out.alloc B2.out.size _
        have U := Lib.hid (d_dunits 23 #[.pointer (some ⟨w2.heap.size, 0, none⟩)] (enters_of Tryd.func23 (by kernel_rfl) rfl)
          (fun pre W => BoxRow W w2.heap.size w2.heap.size (chgL pre) ∧ Below w.heap.size w W) A1 A2 c1 c2 a.cells b.cells len HB1.out.len rowb
          (fun pre i n W hj hp hn => by
            obtain ⟨q1, q2⟩ := chg_pre rowb len hp hn
            have hl := HB1.out.len
            refine (d_chg1 w2.heap.size w2.heap.size (chgL pre) i n hn (by omega) (by omega) W hj.1 ?_ (Nat.le_refl _)).mono ?_
            · obtain ⟨v, hv, _⟩ := hj.1
              exact Nat.le_of_lt hv.lt
            · rintro e W' ⟨hv, h1, h2⟩
              exact ⟨hv, by rw [chg_snoc]; exact h1, hj.2.trans (h2.mono B2.out.size)⟩)
          (fun pre W hj => ⟨((HA1.out.below hj.2).more hj.2.size).sees, ((HB1.out.below hj.2).more hj.2.size).sees⟩)
          (fun pre W W' hj hb => ⟨hj.1.keep hb, hj.2.trans (hb.mono hj.2.size)⟩) X ⟨⟨_, bX, World.ownsRow_nil _ _ _ _⟩, BX⟩)
        have lX : Below w2.heap.size w2 X := by rw [hX]; exact (Below.refl _ _).alloc (Nat.le_refl _) _
        have X2 := (KK1.out.keep lX KK1.out.lt).c 2 _ rfl
        have Y2 := (KK2.out.keep lX KK2.out.lt).c 2 _ rfl
        rw [hX] at X2 Y2
        clear e1 e2 len rowb rb ra ew eh bX BX lX x2 y2
        go_wp2_with fail
        rw [← hX]
        clear hX
        refine U.out.mono ?_; rintro e w3 ⟨⟨v0, rfl⟩, ⟨v, hv, hrow⟩, hb3⟩
        have cO := hv.cell
        obtain ⟨A, c, rfl⟩ := own_slice' hrow
        have OW := Lib.hid (own_lower hrow B2.out.size)
        have BB := Lib.hid hb3
        clear hv hrow hb3
        go_wp2_with fail
        go_ret2
        rw [E1.out, E2.out]
        exact ⟨_, rfl, OW.out, BB.out⟩
      · have e1 : changedC a b = 5 := by
          unfold changedC
          rw [ra, rb]
          have : a.w ≠ b.w ∨ a.h ≠ b.h := by
            by_cases z : a.w = b.w
            · exact Or.inr (fun y => sz ⟨z, y⟩)
            · exact Or.inl z
          simp [this]
        have e2 : changedL a b = [] := by unfold changedL; rw [e1]; rfl
        have E1 := Lib.hid e1
        have E2 := Lib.hid e2
        clear e1 e2
        by_cases ew : a.w = b.w
        · have g1 : (a.w != b.w) = false := by rw [ew]; simp
          have g2 : (a.h != b.h) = true := by rw [bne_iff_ne]; exact fun y => sz ⟨ew, y⟩
          clear ew sz ra rb
          go_wp2_with fail
          go_ret2
          rw [E1.out, E2.out]
          exact ⟨_, rfl, World.ownsRow_nil _ _ _ _, B2.out⟩
        · have g1 : (a.w != b.w) = true := by rw [bne_iff_ne]; exact ew
          clear ew sz ra rb
          go_wp2_with fail
          go_ret2
          rw [E1.out, E2.out]
          exact ⟨_, rfl, World.ownsRow_nil _ _ _ _, B2.out⟩
end Go.Proofs.YtohgodifnbpafaaDoor
