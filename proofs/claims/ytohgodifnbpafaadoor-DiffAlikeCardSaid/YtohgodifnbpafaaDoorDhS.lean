/- Do two screens of one size show the same (the law's same): the walk. -/
import Derived.Test.YtohgodifnbpafaaDoorDgJf
namespace Go.Proofs.YtohgodifnbpafaaDoor
open Go Go.RowKit Go.Sort
set_option linter.unusedVariables false
set_option linter.unusedSimpArgs false

set_option maxHeartbeats 8000000 in
set_option maxRecDepth 100000 in
theorem law_same (a b : Scr) (A1 A2 : Option Addr) (c1 c2 : Nat) (w : World) (ha : ScrAt w w.heap.size a A1 c1) (hb : ScrAt w w.heap.size b A2 c2) (hw : a.w = b.w) (hh : a.h = b.h) (hx : a.x = b.x) (hy : a.y = b.y) (hs : a.shown = b.shown) (hl : a.cells.length = b.cells.length) :
    Calls Tryd.prog 12 #[scrV a A1 c1, scrV b A2 c2] w fun e w' => e = .returned (.bool (decide (a.cells = b.cells))) ∧ Below w.heap.size w w' := by
  obtain ⟨aw, ah, L1, ax, ay, sh⟩ := a
  obtain ⟨bw, bh, L2, bx, by_, bs⟩ := b
  simp only at hw hh hx hy hs hl
  subst hw hh hx hy hs
  obtain ⟨Q, hQ⟩ : ∃ Q, Q = (w.alloc (.cells #[.int .i64 aw, .int .i64 ah, .slice A1 L1.length c1, .int .i64 ax, .int .i64 ay, .bool sh] 25)).alloc (.cells #[.int .i64 aw, .int .i64 ah, .slice A2 L2.length c2, .int .i64 ax, .int .i64 ay, .bool sh] 25) := ⟨_, rfl⟩
  have BQ : Below w.heap.size w Q := by rw [hQ]; exact ((Below.refl _ w).alloc (Nat.le_refl _) _).alloc (by simp) _
  have K1 : Blk Q w.heap.size [.int .i64 aw, .int .i64 ah, .slice A1 L1.length c1, .int .i64 ax, .int .i64 ay, .bool sh] := by
    rw [hQ]
    exact (Blk.new w [.int .i64 aw, .int .i64 ah, .slice A1 L1.length c1, .int .i64 ax, .int .i64 ay, .bool sh] 25).alloc _
  have K2 : Blk Q (w.heap.size + 1) [.int .i64 aw, .int .i64 ah, .slice A2 L2.length c2, .int .i64 ax, .int .i64 ay, .bool sh] := by
    have := Blk.new (w.alloc (.cells #[.int .i64 aw, .int .i64 ah, .slice A1 L1.length c1, .int .i64 ax, .int .i64 ay, .bool sh] 25)) [.int .i64 aw, .int .i64 ah, .slice A2 L2.length c2, .int .i64 ax, .int .i64 ay, .bool sh] 25
    have e : (w.alloc (.cells #[.int .i64 aw, .int .i64 ah, .slice A1 L1.length c1, .int .i64 ax, .int .i64 ay, .bool sh] 25)).heap.size = w.heap.size + 1 := by simp
    rw [e] at this
    rw [hQ]
    exact this
  have S1 := ((ha.below BQ).more BQ.size).sees
  have S2 := ((hb.below BQ).more BQ.size).sees
  have len := ha.len
  simp only at S1 S2 len
  simp only [scrV]
  rw [hl] at K1 hQ len ⊢
  obtain ⟨N, hN⟩ : ∃ N, N = L2.length := ⟨_, rfl⟩
  have HL := Lib.hid hl
  have HN := Lib.hid hN
  rw [← hN] at K1 K2 hQ len ⊢
  have HS1 := Lib.hid S1
  have HS2 := Lib.hid S2
  have HB := Lib.hid BQ
  have KH1 := Lib.hid K1
  have KH2 := Lib.hid K2
  have k10 := K1.c 0 _ rfl
  have k11 := K1.c 1 _ rfl
  have k12 := K1.c 2 _ rfl
  have k13 := K1.c 3 _ rfl
  have k14 := K1.c 4 _ rfl
  have k15 := K1.c 5 _ rfl
  have k20 := K2.c 0 _ rfl
  have k21 := K2.c 1 _ rfl
  have k22 := K2.c 2 _ rfl
  have k23 := K2.c 3 _ rfl
  have k24 := K2.c 4 _ rfl
  have k25 := K2.c 5 _ rfl
  have YES : Hid (∀ e : Ending, e = .returned (.bool true) → L1 = L2 → e = .returned (.bool (decide (L1 = L2)))) := Lib.hid (fun e h1 h2 => by rw [h1, decide_eq_true h2])
  have NO : Hid (∀ e : Ending, e = .returned (.bool false) → L1 ≠ L2 → e = .returned (.bool (decide (L1 = L2)))) := Lib.hid (fun e h1 h2 => by rw [h1, decide_eq_false h2])
  generalize hD : decide (L1 = L2) = D at *
  clear hl hN S1 S2 BQ K1 K2 ha hb hD
  go_enter Tryd.func12, Tryd.ntmps12
  go_wp2_with fail
  rw [← hQ]
  clear hQ
  go_wp2_with fail
  clear k10 k11 k12 k13 k14 k15 k20 k21 k22 k23 k24 k25
  go_loopw [5] (fun s5 wr => ∃ k : Nat, k ≤ N ∧ s5 = .int .i64 k ∧ Hid (L1.take k = L2.take k ∧ Below Q.heap.size Q wr)) (fun s5 _ => N - (intOf s5).toNat)
  case atStart => exact ⟨0, Nat.zero_le _, rfl, Lib.hid ⟨by simp, Below.refl _ _⟩⟩
  case round =>
    obtain ⟨k, hk, rfl, hr⟩ := hrel
    have BR := hr.out.2
    have K1 := KH1.out.keep BR KH1.out.lt
    have K2 := KH2.out.keep BR KH2.out.lt
    by_cases lt : k < N
    · have k2 : k < L2.length := by rw [← HN.out]; exact lt
      have k1 : k < L1.length := by rw [HL.out]; exact k2
      have S1 := HS1.out.below BR (Nat.le_refl _) |>.more BR.size
      have S2 := HS2.out.below BR (Nat.le_refl _) |>.more BR.size
      obtain ⟨ad, rfl, ab, z0, z1, z2, z3, z4⟩ := cel_nth S1 k k1
      obtain ⟨ae, rfl, bb, y0, y1, y2, y3, y4⟩ := cel_nth S2 k k2
      have T1 := Lib.hid (List.take_succ_eq_append_getElem k1)
      have T2 := Lib.hid (List.take_succ_eq_append_getElem k2)
      have DF : Hid (L1[k] ≠ L2[k] → L1 ≠ L2) := Lib.hid (fun h e => by subst e; exact h rfl)
      generalize L1[k] = x at *
      generalize L2[k] = y at *
      obtain ⟨tx, wx, ⟨fx, gx, ax⟩⟩ := x
      obtain ⟨ty, wy, ⟨fy, gy, ay⟩⟩ := y
      simp only at z0 z1 z2 z3 z4 y0 y1 y2 y3 y4
      have z0 := fun d os => ((below_regrown wr d os).cell (p := ad.add (k * 5)) (by simp only [add_blk]; exact ab)).trans z0
      have z1 := fun d os => ((below_regrown wr d os).cell (p := ⟨(ad.add (k * 5)).block, (ad.add (k * 5)).off + 1, none⟩) (by simp only [add_blk]; exact ab)).trans z1
      have z2 := fun d os => ((below_regrown wr d os).cell (p := ⟨(ad.add (k * 5)).block, (ad.add (k * 5)).off + 2, none⟩) (by simp only [add_blk]; exact ab)).trans z2
      have z3 := fun d os => ((below_regrown wr d os).cell (p := ⟨(ad.add (k * 5)).block, (ad.add (k * 5)).off + 3, none⟩) (by simp only [add_blk]; exact ab)).trans z3
      have z4 := fun d os => ((below_regrown wr d os).cell (p := ⟨(ad.add (k * 5)).block, (ad.add (k * 5)).off + 4, none⟩) (by simp only [add_blk]; exact ab)).trans z4
      have y0 := fun d os => ((below_regrown wr d os).cell (p := ae.add (k * 5)) (by simp only [add_blk]; exact bb)).trans y0
      have y1 := fun d os => ((below_regrown wr d os).cell (p := ⟨(ae.add (k * 5)).block, (ae.add (k * 5)).off + 1, none⟩) (by simp only [add_blk]; exact bb)).trans y1
      have y2 := fun d os => ((below_regrown wr d os).cell (p := ⟨(ae.add (k * 5)).block, (ae.add (k * 5)).off + 2, none⟩) (by simp only [add_blk]; exact bb)).trans y2
      have y3 := fun d os => ((below_regrown wr d os).cell (p := ⟨(ae.add (k * 5)).block, (ae.add (k * 5)).off + 3, none⟩) (by simp only [add_blk]; exact bb)).trans y3
      have y4 := fun d os => ((below_regrown wr d os).cell (p := ⟨(ae.add (k * 5)).block, (ae.add (k * 5)).off + 4, none⟩) (by simp only [add_blk]; exact bb)).trans y4
      have k12 := K1.c 2 _ rfl
      have k12' := fun d os => (K1.regrown d os).c 2 _ rfl
      have k22' := fun d os => (K2.regrown d os).c 2 _ rfl
      have HR := Lib.hid hr.out
      have BRH := Lib.hid BR
      clear hr BR K1 K2 S1 S2 k1 k2
      go_upto_region 6 with fail
      clear k12
      by_cases e1 : (⟨tx, wx, ⟨fx, gx, ax⟩⟩ : Cel) = ⟨ty, wy, ⟨fy, gy, ay⟩⟩
      · have NX : Hid (L1.take (k + 1) = L2.take (k + 1)) := Lib.hid (by rw [T1.out, T2.out, HR.out.1, e1])
        injection e1 with a1 a2 a3; injection a3 with a3 a4 a5
        subst a1 a2 a3 a4 a5
        refine wp_region_spec 10 [] [] (by kernel_rfl) (by kernel_rfl) (by kernel_rfl) (by intro t ht; cases ht) ?_
        simp only [List.take_succ_cons, List.take_zero, List.drop_succ_cons, List.drop_zero]
        repeat (refine wpS_step (by rfl) (fun K hK => ?_); go_simp; first | (refine hK _ ?_; clear hK K) | (apply Exists.intro; refine ⟨fun _ => ?_, hK _ ?_⟩; (fail); clear hK K))
        refine wpS_nil ?_
        intro W5 vs5 hl hv
        have B5 := Lib.hid (BRH.out.trans ((later_below.1 hl).mono BRH.out.size))
        clear hl hv z0 z1 z2 z3 z4 y0 y1 y2 y3 y4 k12' k22'
        simp only [fillA]
        go_wp2_with fail
        have NR := Lib.hid (show L1.take (k + 1) = L2.take (k + 1) ∧ Below Q.heap.size Q W5 from ⟨NX.out, B5.out⟩)
        go_roundw
        case rel => exact ⟨k + 1, by omega, by go_num, NR⟩
        case measure => simp [intOf]; omega
      · have NE := Lib.hid (DF.out e1)
        refine wp_region_spec 10 [] [] (by kernel_rfl) (by kernel_rfl) (by kernel_rfl) (by intro t ht; cases ht) ?_
        simp only [List.take_succ_cons, List.take_zero, List.drop_succ_cons, List.drop_zero]
        repeat (refine wpS_step (by rfl) (fun K hK => ?_); go_simp; first | (refine hK _ ?_; clear hK K) | (apply Exists.intro; refine ⟨fun _ => ?_, hK _ ?_⟩; (fail); clear hK K))
        refine wpS_nil ?_
        intro W5 vs5 hl hv
        have B5 := Lib.hid (BRH.out.trans ((later_below.1 hl).mono BRH.out.size))
        clear hl hv z0 z1 z2 z3 z4 y0 y1 y2 y3 y4 k12' k22'
        simp only [fillA]
        have B6 := Lib.hid (HB.out.trans (B5.out.mono HB.out.size))
        have CN := Lib.hid (cel_ne2 True False e1)
        clear e1 DF T1 T2 HR BRH B5
        go_wp2_with fail
        all_goals first
        | (go_ret; exact ⟨NO.out _ rfl NE.out, B6.out⟩)
        | (exfalso
           have q := CN.out
           simp only [*, if_true] at q
           exact q.mp trivial)
    · have e : k = N := by omega
      subst e
      have k12 := K1.c 2 _ rfl
      have EQ : Hid (L1 = L2) := Lib.hid (by
        have := hr.out.1
        rw [List.take_of_length_le (by rw [HL.out, ← HN.out]; exact Nat.le_refl _), List.take_of_length_le (by rw [← HN.out]; exact Nat.le_refl _)] at this
        exact this)
      have BB := Lib.hid (HB.out.trans (BR.mono HB.out.size))
      clear hr BR K1 K2
      go_wp2_with fail
      go_ret
      exact ⟨YES.out _ rfl EQ.out, BB.out⟩
end Go.Proofs.YtohgodifnbpafaaDoor
