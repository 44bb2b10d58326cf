/- The document's SameFrames. -/
import Derived.Test.YtmaofighbpnbiaaGreatDoorYTqM
namespace Go.Proofs.YtmaofighbpnbiaaGreatDoor
open Go Go.RowKit Go.Sort
set_option linter.unusedVariables false
set_option linter.unusedSimpArgs false
section
set_option maxHeartbeats 8000000 in
set_option maxRecDepth 100000 in
theorem r_SameF (A A2 : Option Addr) (c c2 : Nat) (L M : List FA) (B B2 : Nat) (W : World) (D : FrsD W B A c L) (D2 : FrsD W B2 A2 c2 M) (hB : B ≤ W.heap.size) (hB2 : B2 ≤ W.heap.size) : Calls Tryz.prog 21 #[.slice A L.length c, .slice A2 M.length c2] W (SamR W (frms L) (frms M)) := by
 have HD := Lib.hid D
 have HD2 := Lib.hid D2
 obtain ⟨n, hn⟩ : ∃ n, n = L.length := ⟨_, rfl⟩
 obtain ⟨m, hm⟩ : ∃ m, m = M.length := ⟨_, rfl⟩
 have HN := Lib.hid hn
 have HM := Lib.hid hm
 have nl : n ≤ 4398046511104 := by have := D.sz; omega
 have ml : m ≤ 4398046511104 := by have := D2.sz; omega
 rw [← hn, ← hm]
 clear hn hm D D2
 by_cases ne : n = m
 case neg =>
  have ne' : ¬ (n : Int) = (m : Int) := by omega
  have NE : Hid (¬ frms L = frms M) := Lib.hid (fun z => ne (by have := congrArg List.length z; rw [frms_len, frms_len, ← HN.out, ← HM.out] at this; exact this))
  go_enter Tryz.func21, Tryz.ntmps21
  go_wp2_with fail
  go_ret
  exact samR_no NE.out (Below.refl _ _)
 subst ne
 go_enter Tryz.func21, Tryz.ntmps21
 go_wp2_with fail
 go_loopw [5] (fun s5 wr => ∃ (k : Nat), k ≤ n ∧ s5 = .int .i64 (k : Int) ∧ Hid (∀ j, (h1 : j < L.length) → (h2 : j < M.length) → j < k → (L[j]).at_ = (M[j]).at_ ∧ (L[j]).b.bs = (M[j]).b.bs) ∧ Hid (Below W.heap.size W wr)) (fun s5 _ => n - (intOf s5).toNat)
 case atStart => exact ⟨0, Nat.zero_le _, rfl, Lib.hid (fun j _ _ h => absurd h (Nat.not_lt_zero _)), Lib.hid (Below.refl _ _)⟩
 case round =>
  obtain ⟨k, hk, rfl, hs, hb⟩ := hrel
  by_cases lt : k < n
  ·have kl : k < L.length := by rw [← HN.out]; exact lt
   have km : k < M.length := by rw [← HM.out]; exact lt
   have F1 := HD.out.below hb.out hB
   have F2 := HD2.out.below hb.out hB2
   obtain ⟨ad, rfl, l1, y1, y2⟩ := F1.at k kl
   obtain ⟨ae, rfl, l2, z1, z2⟩ := F2.at k km
   have cx := fun q => conv_sees ((HD.out.below (below_drewN hb.out q) hB).ok _ (List.getElem_mem kl)).b
   have cy := fun q => conv_sees ((HD2.out.below (below_drewN hb.out q) hB2).ok _ (List.getElem_mem km)).b
   have rx := Lib.hid (F1.ok _ (List.getElem_mem kl)).b.rng
   have ry := Lib.hid (F2.ok _ (List.getElem_mem km)).b.rng
   have NS := Lib.hid (fun h : (L[k]).at_ = (M[k]).at_ ∧ (L[k]).b.bs = (M[k]).b.bs => show ∀ j, (h1 : j < L.length) → (h2 : j < M.length) → j < k + 1 → (L[j]).at_ = (M[j]).at_ ∧ (L[j]).b.bs = (M[j]).b.bs from fun j h1 h2 lj => by
    rcases Nat.lt_or_ge j k with q | q
    ·exact hs.out j h1 h2 q
    ·obtain rfl : j = k := by omega
     exact h)
   have NF := Lib.hid (fun h : frms L = frms M => show (L[k]).at_ = (M[k]).at_ ∧ (L[k]).b.bs = (M[k]).b.bs by
    have e1 := frms_get L k kl
    have e2 := frms_get M k km
    simp only [h] at e1
    rw [e1] at e2
    exact ⟨congrArg Frm.at_ e2, congrArg Frm.bs e2⟩)
   have q0 : (0 : Int) ≤ (k : Int) := by omega
   have q5 : (k : Int) < (n : Int) := by omega
   have tn : (k : Int).toNat = k := by omega
   have wk : IntKind.i64.wrap ((k : Int) + 1) = (k : Int) + 1 := IntWalk.i64_in _ (by omega)
   generalize L[k] = x at *
   generalize M[k] = y at *
   obtain ⟨xt, xA, xc, xs⟩ := x
   obtain ⟨yt, yA, yc, ys⟩ := y
   dsimp only at y1 y2 z1 z2 cx cy rx ry NS NF
   clear F1 F2 l1 l2 hs
   by_cases ct : xt = yt
   case neg =>
    have EN := Lib.hid (fun (V : World) (b : Below W.heap.size W V) => samR_no (l := frms L) (m := frms M) (fun z => ct (NF.out z).1) b)
    clear NS NF rx ry
    go_upto_region 6 with fail
    refine wp_region_draw_tail 25 (by kernel_rfl) (by kernel_rfl) ?_
    simp only [List.take_succ_cons, List.take_zero, List.drop_succ_cons, List.drop_zero]
    repeat (first | go_big_quiet_step (fail) | quiet_step (fail))
    refine wpQuiet_nil ?_
    intro _ hw'
    obtain ⟨nq, hw''⟩ := hw'
    subst hw''
    have BN := Lib.hid (below_drewN hb.out nq)
    go_wp2_with fail
    go_ret
    exact EN.out _ BN.out
   subst ct
   by_cases cb : xs = ys
   ·subst cb
    have NS := Lib.hid (NS.out ⟨rfl, rfl⟩)
    clear NF rx ry
    go_upto_region 6 with fail
    refine wp_region_draw_tail 25 (by kernel_rfl) (by kernel_rfl) ?_
    simp only [List.take_succ_cons, List.take_zero, List.drop_succ_cons, List.drop_zero]
    repeat (first | go_big_quiet_step (fail) | quiet_step (fail))
    refine wpQuiet_nil ?_
    intro _ hw'
    obtain ⟨nq, hw''⟩ := hw'
    subst hw''
    have BN := Lib.hid (below_drewN hb.out nq)
    go_wp2_with fail
    go_roundw
    case rel => exact ⟨k + 1, by omega, by go_num, NS, BN⟩
    case measure => simp [intOf]; omega
   ·have cz : ((barr xs).toList == (barr ys).toList) = false := by rw [eq_bytes]; exact decide_eq_false (fun z => cb (barr_inj rx.out ry.out z))
    have EN := Lib.hid (fun (V : World) (b : Below W.heap.size W V) => samR_no (l := frms L) (m := frms M) (fun z => cb (NF.out z).2) b)
    clear NS NF rx ry cb
    go_upto_region 6 with fail
    refine wp_region_draw_tail 25 (by kernel_rfl) (by kernel_rfl) ?_
    simp only [List.take_succ_cons, List.take_zero, List.drop_succ_cons, List.drop_zero]
    repeat (first | go_big_quiet_step (fail) | quiet_step (fail))
    refine wpQuiet_nil ?_
    intro _ hw'
    obtain ⟨nq, hw''⟩ := hw'
    subst hw''
    have BN := Lib.hid (below_drewN hb.out nq)
    go_wp2_with fail
    go_ret
    exact EN.out _ BN.out
  ·have e : k = n := by omega
   subst e
   have q5 : ¬ (k : Int) < (k : Int) := by omega
   have EQ : Hid (frms L = frms M) := Lib.hid (frms_ext (by rw [← HN.out, ← HM.out]) (fun j h1 h2 => hs.out j h1 h2 (by have := HN.out; omega)))
   clear hs
   go_wp2_with fail
   go_ret
   exact samR_yes EQ.out hb.out
end
end Go.Proofs.YtmaofighbpnbiaaGreatDoor
