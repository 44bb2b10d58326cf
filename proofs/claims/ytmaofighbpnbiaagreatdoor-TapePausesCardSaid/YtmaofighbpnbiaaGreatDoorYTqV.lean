/- TapePauses: the walk. -/
import Derived.Test.YtmaofighbpnbiaaGreatDoorYTqU
import Derived.Test.YtmaofighbpnbiaaGreatDoorYTqM
namespace Go.Proofs.YtmaofighbpnbiaaGreatDoor
open Go Go.RowKit Go.Sort
set_option linter.unusedVariables false
set_option linter.unusedSimpArgs false
section
def shA (most : Int) : Int → List FA → Bool
 | _, [] => true
 | w, x :: l => decide (x.at_ - w ≤ most) && shA most x.at_ l
theorem shA_app (most : Int) : ∀ (l m : List FA) (w : Int), shA most w (l ++ m) = (shA most w l && shA most (wasE w l) m)
 | [], m, w => rfl
 | x :: l, m, w => by rw [List.cons_append, shA, shA, shA_app most l m, wasE, Bool.and_assoc]
theorem shA_eq (most : Int) : ∀ (l : List FA) (w : Int), shA most w l = true → sqF most w w (frms l) = frms l
 | [], _, _ => rfl
 | x :: l, w, h => by
  rw [shA, Bool.and_eq_true] at h
  have d := of_decide_eq_true h.1
  have ih := shA_eq most l x.at_ h.2
  unfold frms at *
  rw [List.map_cons, sqF]
  have e : w + min most ((FA.frm x).at_ - w) = x.at_ := by show w + min most (x.at_ - w) = x.at_; omega
  rw [e]
  have e2 : (FA.frm x).at_ = x.at_ := rfl
  rw [e2, ih]
  rfl
theorem sq_sizes (l : List Frm) (most : Int) : (squeezeT l most).1.length ≤ l.length ∧ ((squeezeT l most).1.flatMap (·.bs)).length ≤ (l.flatMap (·.bs)).length ∧ ((squeezeT l most).2 = 0 → checkT l = 0) ∧ ((squeezeT l most).2 ≠ 0 → (squeezeT l most).1 = []) := by
 have fl : ∀ (l : List Frm) (a w : Int), (sqF most a w l).flatMap (·.bs) = l.flatMap (·.bs) := by
  intro l
  induction l with
  | nil => intro a w; rfl
  | cons f l ih => intro a w; rw [sqF, List.flatMap_cons, List.flatMap_cons, ih]
 unfold squeezeT
 split
 ·rename_i c
  exact ⟨Nat.zero_le _, Nat.zero_le _, fun z => absurd z c, fun _ => rfl⟩
 ·rename_i c
  split
  ·exact ⟨Nat.zero_le _, Nat.zero_le _, fun z => absurd z (by decide), fun _ => rfl⟩
  ·exact ⟨by rw [sqF_len]; exact Nat.le_refl _, by rw [fl]; exact Nat.le_refl _, fun _ => by omega, fun z => absurd rfl z⟩
theorem was_le : ∀ (L : List FA) (w : Int) (k : Nat), timedF w (frms L) = true → (hk : k < L.length) → wasE w (L.take k) ≤ (L[k]).at_
 | x :: l, w, 0, h, _ => by
  have h : timedF w (FA.frm x :: frms l) = true := h
  rw [timedF, Bool.and_eq_true] at h
  exact (of_decide_eq_true h.1).1
 | x :: l, w, k + 1, h, hk => by
  have h : timedF w (FA.frm x :: frms l) = true := h
  rw [timedF, Bool.and_eq_true] at h
  exact was_le l x.at_ k h.2 (by simpa using hk)
theorem sqA_get (most : Int) {L L2 : List FA} (e : frms L2 = sqF most 0 0 (frms L)) (k : Nat) (hk : k < L.length) (hk2 : k < L2.length) : (L2[k]).at_ = atE most 0 0 (L.take k) + min most ((L[k]).at_ - wasE 0 (L.take k)) ∧ (L2[k]).b.bs = (L[k]).b.bs := by
 have e1 := frms_get L2 k hk2
 have h2 : (frms L2)[k]? = (frms (sqA most 0 0 L))[k]? := by rw [sqA_frms, e]
 have h3 : (sqA most 0 0 L)[k]? = some ⟨atE most 0 0 (L.take k) + min most ((L[k]).at_ - wasE 0 (L.take k)), (L[k]).b⟩ := by
  have d : L = L.take k ++ L[k] :: L.drop (k + 1) := by rw [← List.drop_eq_getElem_cons hk, List.take_append_drop]
  conv => lhs; rw [d, sqA_app]
  rw [List.getElem?_append_right (by rw [sqA_len, List.length_take]; omega), sqA_len, List.length_take, Nat.min_eq_left (by omega), Nat.sub_self]
  rfl
 rw [List.getElem?_eq_getElem (by rw [frms_len]; exact hk2), e1] at h2
 unfold frms at h2
 rw [List.getElem?_map, h3] at h2
 simp only [Option.map_some, Option.some.injEq, FA.frm, Frm.mk.injEq] at h2
 exact h2
set_option maxHeartbeats 16000000 in
set_option maxRecDepth 100000 in
theorem tapePauses_walk (A : Option Addr) (c : Nat) (L : List FA) (most : Int) (W : World) (E : EnvV W) (F : FrsD W W.heap.size A c L) (hm : -9223372036854775808 ≤ most ∧ most ≤ 9223372036854775807) :
  Calls Tryz.prog 10 #[.slice A L.length c, .int .i64 most] W fun e w' => e = .returned (.bool true) ∧ Below W.heap.size W w' := by
 have BY := Lib.hid (law_beyond A c L W.heap.size W F)
 have AL := Lib.hid (law_alive W E)
 have HF := Lib.hid F
 obtain ⟨n, hn⟩ : ∃ n, n = L.length := ⟨_, rfl⟩
 have HN := Lib.hid hn
 rw [← hn] at BY ⊢
 obtain ⟨bb, hbb⟩ : ∃ bb, bb = beyB L := ⟨_, rfl⟩
 have HBB := Lib.hid hbb
 rw [← hbb] at BY
 clear hbb hn F E
 cases bb with
 | true =>
  go_enter Tryz.func10, Tryz.ntmps10
  go_wp2_with fail
  refine BY.out.mono ?_; rintro e w1 ⟨rfl, hw⟩
  rw [hw]
  clear hw
  go_wp2_with fail
  refine BY.out.mono ?_; rintro e w2 ⟨rfl, hw⟩
  rw [hw]
  clear hw
  go_wp2_with fail
  go_ret
  exact ⟨rfl, Below.refl _ _⟩
 | false =>
  have tot : (flatB L).length ≤ 134217728 := by have := of_decide_eq_false HBB.out.symm; omega
  have HT := Lib.hid tot
  clear tot
  go_enter Tryz.func10, Tryz.ntmps10
  go_wp2_with fail
  refine BY.out.mono ?_; rintro e w1 ⟨rfl, hw⟩
  rw [hw]
  clear hw BY
  go_wp2_with fail
  refine AL.out.mono ?_; rintro e V1 ⟨rfl, B1⟩
  have F1 := HF.out.below B1 (Nat.le_refl _)
  have SQ := Lib.hid (t_Squeeze A c L most W.heap.size V1 F1 B1.size (by have := HT.out; omega) hm)
  rw [← HN.out] at SQ
  have HB1 := Lib.hid B1
  clear AL B1 F1
  go_wp2_with fail
  refine SQ.out.mono ?_; rintro e V2 ⟨v2, rfl, C2⟩
  have sz := sq_sizes (frms L) most
  have ag := @squeeze_again (frms L)
  rw [frms_len, frms_flat] at sz
  obtain ⟨l1, k1, hl1⟩ : ∃ l1 k1, squeezeT (frms L) most = (l1, k1) := ⟨_, _, rfl⟩
  rw [hl1] at C2 sz ⊢
  dsimp only at C2 sz ⊢
  have l16 : l1.length ≤ 1000000 := by
   by_cases z : k1 = 0
   ·have := (check_parts (sz.2.2.1 z)).2.1; rw [frms_len] at this; omega
   ·rw [sz.2.2.2 z]; decide
  obtain ⟨A2, c2, L2, rfl, eL2, FD2⟩ := C2.read l16 (by have := HT.out; omega)
  have HB2 := Lib.hid (HB1.out.trans (C2.1.mono HB1.out.size))
  by_cases k0 : k1 = 0
  case neg =>
   have kb : (k1 == 0) = false := by simpa using k0
   have l0 : L2.length = 0 := by rw [← frms_len, eL2, sz.2.2.2 k0]; rfl
   clear SQ C2 FD2 sz ag hl1 l16
   go_wp2_with fail
   go_ret
   exact ⟨by rfl, HB2.out⟩
  subst k0
  obtain ⟨a1, a2, a3, a4⟩ := ag hl1
  have S2 := t_Squeeze A2 c2 L2 most V2.heap.size V2 FD2 (Nat.le_refl _) (by rw [← frms_flat, eL2]; have := HT.out; omega) hm
  unfold SqR at S2
  rw [eL2, a1] at S2
  dsimp only at S2
  have n2 : L2.length = n := by rw [← frms_len, eL2, a2, sqF_len, frms_len, HN.out]
  rw [n2] at S2 ⊢
  have S2 := Lib.hid S2
  have HF2 := Lib.hid FD2
  have HE2 := Lib.hid (eL2.trans a2)
  have HE1 := Lib.hid eL2
  have HCK := Lib.hid a4
  have HA := Lib.hid a2
  have nL : n ≤ 16384 := by have := (check_parts a4).2.1; rw [frms_len] at this; have := HN.out; omega
  have L1B := Lib.hid (show (l1.flatMap (·.bs)).length ≤ 140737488355328 by have := HT.out; omega)
  have L1N := Lib.hid l16
  have HN2 := Lib.hid n2
  clear SQ C2 FD2 sz ag hl1 l16 a1 a2 a4 eL2 n2
  go_wp2_with fail
  refine S2.out.mono ?_; rintro e V3 ⟨v3, rfl, C3⟩
  obtain ⟨A3, c3, L3, rfl, eL3, FD3⟩ := C3.read L1N.out L1B.out
  have HB3 := Lib.hid (HB2.out.trans (C3.1.mono HB2.out.size))
  have FD2 := HF2.out.below C3.1 (Nat.le_refl _)
  have SM := law_same30 A3 A2 c3 c2 L3 L2 V3.heap.size V2.heap.size V3 FD3 FD2 (Nat.le_refl _) C3.1.size
  have n3 : L3.length = n := by rw [← HN2.out, ← frms_len, ← frms_len, eL3, HE1.out]
  rw [n3, HN2.out] at SM
  rw [n3]
  have SM : Hid (Calls Tryz.prog 24 #[.slice A3 n c3, .slice A2 n c2] V3 fun e w' => e = .returned (.bool true) ∧ Below V3.heap.size V3 w') := Lib.hid (SM.mono (fun e w' ⟨b, e1, e2, e3⟩ => ⟨by rw [e1, e2.2 (eL3.trans HE1.out.symm)], e3⟩))
  have HF2 := Lib.hid FD2
  have HV23 := Lib.hid C3.1.size
  clear S2 C3 FD3 FD2 eL3 n3
  go_wp2_with fail
  refine SM.out.mono ?_; rintro e V4 ⟨rfl, B4⟩
  have HB4 := Lib.hid (HB3.out.trans (B4.mono HB3.out.size))
  have F4 := Lib.hid (HF.out.below HB4.out (Nat.le_refl _))
  have F5 := Lib.hid (HF2.out.below B4 HV23.out)
  have HV24 := Lib.hid (Nat.le_trans HV23.out B4.size)
  have BND := Lib.hid (fun k => sq_bounds most a3 (L.take k) 0 0 (by decide) (by decide) (by decide) (by rw [frms_take]; exact timed_take (frms L) 0 k (check_parts HCK.out).2.2))
  have MON := Lib.hid (fun k (hk : k < L.length) => by
   have b := timed_mono _ 0 (check_parts HCK.out).2.2 k k (by rw [frms_len]; exact hk) (Nat.le_refl _)
   rw [frms_get L k hk] at b
   exact And.intro (was_le L 0 k (check_parts HCK.out).2.2 hk) b.2)
  clear SM B4
  go_wp2_with fail
  go_loopw [9, 10, 11, 12] (fun s9 s10 s11 s12 wr => ∃ (k : Nat) (a b : Int) (sh : Bool), k ≤ n ∧ s9 = .int .i64 b ∧ s10 = .int .i64 a ∧ s11 = .bool sh ∧ s12 = .int .i64 (k : Int) ∧ Hid (a = atE most 0 0 (L.take k)) ∧ Hid (b = wasE 0 (L.take k)) ∧ Hid (sh = shA most 0 (L.take k)) ∧ Hid (Below V4.heap.size V4 wr)) (fun _ _ _ s12 _ => n - (intOf s12).toNat)
  case atStart => exact ⟨0, 0, 0, true, Nat.zero_le _, rfl, rfl, rfl, rfl, Lib.hid rfl, Lib.hid rfl, Lib.hid rfl, Lib.hid (Below.refl _ _)⟩
  case round =>
   obtain ⟨k, a, b, sh, hk, rfl, rfl, rfl, rfl, ha, hb, hsh, hw⟩ := hrel
   by_cases lt : k < n
   ·have kl : k < L.length := by rw [← HN.out]; exact lt
    have kl2 : k < L2.length := by rw [HN2.out]; exact lt
    have G1 := F4.out.below hw.out (Nat.le_trans (Nat.le_refl _) HB4.out.size)
    have G2 := F5.out.below hw.out HV24.out
    obtain ⟨ad, rfl, lb, z1, z2⟩ := G1.at k kl
    obtain ⟨ae, rfl, lc, y1, y2⟩ := G2.at k kl2
    have cx := fun q => conv_sees ((F4.out.below (below_drewN hw.out q) HB4.out.size).ok _ (List.getElem_mem kl)).b
    have cy := fun q => conv_sees ((F5.out.below (below_drewN hw.out q) HV24.out).ok _ (List.getElem_mem kl2)).b
    obtain ⟨g1, g2⟩ := sqA_get most HE2.out k kl kl2
    obtain ⟨nx1, nx2⟩ := ends_next most L k kl
    have BK := BND.out k
    have BK1 := BND.out (k + 1)
    rw [nx1, nx2, ← ha.out, ← hb.out] at BK1
    rw [← ha.out, ← hb.out] at BK g1
    have NX := Lib.hid (And.intro nx1 nx2)
    have NS := Lib.hid (show shA most 0 (L.take (k + 1)) = (sh && decide ((L[k]).at_ - b ≤ most)) by rw [take_succ_get L k kl, shA_app, ← hsh.out, ← hb.out]; simp [shA])
    have OX := MON.out k kl
    rw [← hb.out] at OX
    generalize (L[k]) = x at *
    generalize (L2[k]) = y at *
    obtain ⟨xt, xA, xc, bs⟩ := x
    obtain ⟨yt, yA, yc, ys⟩ := y
    dsimp only at *
    subst g2
    obtain ⟨d, hd⟩ : ∃ d, d = xt - b := ⟨_, rfl⟩
    rw [← hd] at g1 BK1 NS
    have wd : IntKind.i64.wrap (xt - b) = d := by rw [hd]; exact IntWalk.i64_in _ (by omega)
    have wy : IntKind.i64.wrap (yt - a) = yt - a := IntWalk.i64_in _ (by omega)
    have t1 : ¬ yt < a := by omega
    have t2 : ¬ most < yt - a := by omega
    have t3 : ¬ d < yt - a := by omega
    have q0 : (0 : Int) ≤ (k : Int) := by omega
    have q5 : (k : Int) < (n : Int) := by omega
    have tn : (k : Int).toNat = k := by omega
    have wk : IntKind.i64.wrap ((k : Int) + 1) = (k : Int) + 1 := IntWalk.i64_in _ (by omega)
    have HG := Lib.hid g1
    have HDD := Lib.hid hd
    clear G1 G2 lb lc nx1 nx2 BK BK1 OX g1 hd
    obtain ⟨sd, hsd⟩ : ∃ sd, sd = decide (d ≤ most) := ⟨_, rfl⟩
    rw [← hsd] at NS
    cases sh with
    | false =>
     clear hsd
     go_wp2_with fail
     refine wp_region_draw_tail 43 (by kernel_rfl) (by kernel_rfl) ?_
     simp only [List.take_succ_cons, List.take_zero, List.drop_succ_cons, List.drop_zero]
     repeat (first | go_big_quiet_step (fail) | quiet_step (fail))
     refine wpQuiet_nil ?_
     intro _ hw'
     obtain ⟨nq, hw''⟩ := hw'
     subst hw''
     have BN := Lib.hid (below_drewN hw.out nq)
     go_wp2_with fail
     go_roundw
     case rel => exact ⟨k + 1, yt, xt, false, by omega, rfl, rfl, rfl, by go_num, Lib.hid (by rw [NX.out.1, ← ha.out, ← hb.out, ← HDD.out]; exact HG.out), Lib.hid (by rw [NX.out.2]), Lib.hid (by rw [NS.out]; rfl), BN⟩
     case measure => simp [intOf]; omega
    | true =>
     subst hsd
     go_wp2_with fail
     refine wp_region_draw_tail 43 (by kernel_rfl) (by kernel_rfl) ?_
     simp only [List.take_succ_cons, List.take_zero, List.drop_succ_cons, List.drop_zero]
     repeat (first | go_big_quiet_step (fail) | quiet_step (fail))
     refine wpQuiet_nil ?_
     intro _ hw'
     obtain ⟨nq, hw''⟩ := hw'
     subst hw''
     have BN := Lib.hid (below_drewN hw.out nq)
     go_wp2_with fail
     go_roundw
     case rel => exact ⟨k + 1, yt, xt, decide (d ≤ most), by omega, rfl, rfl, rfl, by go_num, Lib.hid (by rw [NX.out.1, ← ha.out, ← hb.out, ← HDD.out]; exact HG.out), Lib.hid (by rw [NX.out.2]), Lib.hid (by rw [NS.out]; rfl), BN⟩
     case measure => simp [intOf]; omega
   ·have e : k = n := by omega
    subst e
    have q5 : ¬ (k : Int) < (k : Int) := by omega
    have FB := Lib.hid (HB4.out.trans (hw.out.mono HB4.out.size))
    cases sh with
    | false =>
     go_wp2_with fail
     go_ret
     exact ⟨rfl, FB.out⟩
    | true =>
     have EQ : frms L2 = frms L := by
      rw [HE2.out]
      have h := hsh.out
      rw [HN.out, List.take_length] at h
      exact shA_eq most L 0 h.symm
     have SM := law_same30 _ _ c2 c L2 L V2.heap.size W.heap.size wr (F5.out.below hw.out HV24.out) (F4.out.below hw.out HB4.out.size) (Nat.le_trans HV24.out hw.out.size) FB.out.size
     rw [HN2.out, ← HN.out] at SM
     have SM : Hid (Calls Tryz.prog 24 #[.slice A2 k c2, .slice A k c] wr fun e w' => e = .returned (.bool true) ∧ Below wr.heap.size wr w') := Lib.hid (SM.mono (fun e w' ⟨b, e1, e2, e3⟩ => ⟨by rw [e1, e2.2 EQ], e3⟩))
     clear EQ
     go_wp2_with fail
     refine SM.out.mono ?_; rintro e V9 ⟨rfl, B9⟩
     have FB := Lib.hid (FB.out.trans (B9.mono FB.out.size))
     go_wp2_with fail
     go_ret
     exact ⟨rfl, FB.out⟩
end
end Go.Proofs.YtmaofighbpnbiaaGreatDoor
