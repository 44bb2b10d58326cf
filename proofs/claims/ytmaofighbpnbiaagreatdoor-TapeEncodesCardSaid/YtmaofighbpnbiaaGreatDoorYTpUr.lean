/- The document's twins of what tapes are checked and written with (fin2.py lays them here for a claim: they stand in TpU, TpV, TpY). -/
import Derived.Test.YtmaofighbpnbiaaGreatDoorYTpY
import Derived.Test.YtmaofighbpnbiaaGreatDoorYTpU
import Derived.Test.YtmaofighbpnbiaaGreatDoorYTpV
namespace Go.Proofs.YtmaofighbpnbiaaGreatDoor
open Go Go.RowKit Go.Sort
set_option linter.unusedVariables false
set_option linter.unusedSimpArgs false
section
set_option maxRecDepth 100000 in
theorem r_fail (g : Nat) (A : Option Addr) (n c : Nat) (r : RdT) (code at_ : Int) (W : World) (K : Bk W g (rdV A n c r) 82) : Calls Tryz.prog 48 #[.pointer (some ⟨g, 0, none⟩), .int .i64 code, .int .i64 at_] W fun e w' => e = .returned (.tuple #[]) ∧ Bk w' g (rdV A n c (failR r code at_)) 82 ∧ Mv [g] W w' := by
 obtain ⟨p, q, z⟩ := r
 have k1 : W.cell? ⟨g, 2, none⟩ = some (.int .i64 q) := K.c 2 _ rfl
 have k2 : W.cell? ⟨g, 3, none⟩ = some (.int .i64 z) := K.c 3 _ rfl
 have f2 := K.f 2
 have f3 := K.f 3
 have HK := Lib.hid K
 have hl := K.lt
 by_cases z : q = 0
 ·subst z
  clear K
  go_enter Tryz.func48, Tryz.ntmps48
  go_wp2_with fail
  refine bodyPost_end (results_none rfl _ _ _) rfl ?_
  exact ⟨by rfl, by have z := (HK.out.set 2 (.int .i64 code)).set 3 (.int .i64 at_); exact z, (Mv.set W (by simp)).trans (Mv.set _ (by simp)) (fun b m => Or.inl m)⟩
 ·clear K
  go_enter Tryz.func48, Tryz.ntmps48
  go_wp2_with fail
  refine bodyPost_end (results_none rfl _ _ _) rfl ?_
  exact ⟨by rfl, by unfold failR; rw [if_neg z]; exact HK.out, Mv.refl _ W⟩
set_option maxHeartbeats 4000000 in
set_option maxRecDepth 100000 in
theorem r_number (LO : Nat) (v : Value) (xs : List Int) (n0 : Nat) (W : World) (hv : W.ownsRow LO 5 1 v xs.length (bts xs)) (hLO : LO ≤ W.heap.size) (h1 : n0 ≤ 1099511627776) (ub : xs.length ≤ 10000000) :
  Calls Tryz.prog 41 #[v, .int .i64 (n0 : Int)] W (NumR LO W (xs ++ numL (n0 : Int))) := by
 obtain ⟨i0, hi0, hz0, hz1, hz2⟩ := info_parts infoB
 obtain ⟨A, c, rfl⟩ := own_slc hv
 obtain ⟨R, hR⟩ : ∃ R, R = xs ++ numL (n0 : Int) := ⟨_, rfl⟩
 have ST : Hid (W.ownsRow LO 5 1 (.slice A xs.length c) xs.length (bts xs) ∧ Below LO W W ∧ LO ≤ W.heap.size ∧ xs ++ numF 9 (n0 : Int) = R ∧ KeepU W W) := Lib.hid ⟨hv, Below.refl _ _, hLO, hR.symm, KeepU.refl _⟩
 rw [← hR]
 clear hv hLO hR
 go_enter Tryz.func41, Tryz.ntmps41
 go_wp2_with fail
 go_loopw [0, 1] (fun s0 s1 wr => ∃ (zs : List Int) (m f : Nat) (A' : Option Addr) (c' : Nat), s0 = .slice A' zs.length c' ∧ s1 = .int .i64 (m : Int) ∧ zs.length + f ≤ 10000009 ∧ m ≤ 1099511627776 ∧ (m : Int) < 128 ^ (f + 1) ∧ Hid (wr.ownsRow LO 5 1 (.slice A' zs.length c') zs.length (bts zs) ∧ Below LO W wr ∧ LO ≤ wr.heap.size ∧ zs ++ numF f (m : Int) = R ∧ KeepU W wr)) (fun _ s1 _ => (intOf s1).toNat)
 case atStart =>
  refine ⟨xs, n0, 9, A, c, rfl, rfl, by omega, h1, ?_, ST⟩
  have e : (128 : Int) ^ (9 + 1) = 1180591620717411303424 := by decide
  rw [e]; omega
 case round =>
  obtain ⟨zs, m, f, A', c', rfl, rfl, lf, mb, mf, hr⟩ := hrel
  clear ST
  by_cases big : 128 ≤ m
  ·have bi : (128 : Int) ≤ (m : Int) := by omega
   obtain ⟨X, hX⟩ : ∃ X : Nat, X = 128 + m % 128 := ⟨_, rfl⟩
   obtain ⟨f', rfl⟩ : ∃ f', f = f' + 1 := by
    cases f with
    | zero => simp at mf; omega
    | succ f' => exact ⟨f', rfl⟩
   have mf' : ((m / 128 : Nat) : Int) < 128 ^ (f' + 1) := by
    have e : (128 : Int) ^ (f' + 1 + 1) = 128 ^ (f' + 1) * 128 := Int.pow_succ _ _
    rw [e] at mf
    have := Int.ediv_lt_of_lt_mul (show (0 : Int) < 128 by decide) mf
    omega
   have HO := Lib.hid (hr.out.1.alloc (.cells #[.int .u8 (X : Int)] 5))
   have O1 : Hid (∀ u ∈ [Value.int .u8 (X : Int)], u.oneCell' = true) := Lib.hid (by intro u hu; simp at hu; subst hu; rfl)
   have H2 : zs.length + 1 ≤ maxLen := by unfold maxLen; omega
   have H3 : (zs.length + 1) * 1 ≤ 140737488355328 := by omega
   have H4 : LO ≤ (wr.alloc (.cells #[.int .u8 (X : Int)] 5)).heap.size := by have := hr.out.2.2.1; simp; omega
   have NX : Hid (∀ (w3 : World) (v' : Value), w3.ownsRow LO 5 1 v' (zs.length + 1) (bts zs ++ [.int .u8 (X : Int)]) → (wr.alloc (.cells #[.int .u8 (X : Int)] 5)).grownBy w3 (Value.slice A' zs.length c').ownBlock → ∃ A4 c4, v' = .slice A4 (zs ++ [(X : Int)]).length c4 ∧ (w3.ownsRow LO 5 1 (.slice A4 (zs ++ [(X : Int)]).length c4) (zs ++ [(X : Int)]).length (bts (zs ++ [(X : Int)])) ∧ Below LO W w3 ∧ LO ≤ w3.heap.size ∧ (zs ++ [(X : Int)]) ++ numF f' ((m / 128 : Nat) : Int) = R ∧ KeepU W w3)) := Lib.hid (fun w3 v' ho hg => by
    obtain ⟨q1, q2⟩ := own_push hr.out.1 hr.out.2.2.1 ho hg
    obtain ⟨A4, c4, rfl⟩ := own_slc q1
    refine ⟨A4, c4, rfl, q1, hr.out.2.1.trans q2, Nat.le_trans hr.out.2.2.1 q2.size, ?_, hr.out.2.2.2.2.trans (keepU_push hr.out.1 hg)⟩
    have z := hr.out.2.2.2.1
    rw [numF_step f' (m : Int) bi] at z
    rw [List.append_assoc, ← z, hX]
    simp)
   have mlt : m / 128 < m := by omega
   have mle : m / 128 ≤ 1099511627776 := by omega
   have zl : (zs ++ [(X : Int)]).length = zs.length + 1 := by simp
   have rm : Int.tmod (m : Int) 128 = ((m % 128 : Nat) : Int) := by rw [Int.tmod_eq_emod_of_nonneg (by omega)]; omega
   have dv : Int.tdiv (m : Int) 128 = ((m / 128 : Nat) : Int) := by rw [Int.tdiv_eq_ediv_of_nonneg (by omega)]; omega
   have w1 : IntKind.i64.wrap ((m % 128 : Nat) : Int) = ((m % 128 : Nat) : Int) := IntWalk.i64_in _ (by omega)
   have w2 : IntKind.i64.wrap (128 + ((m % 128 : Nat) : Int)) = (X : Int) := by rw [hX, IntWalk.i64_in _ (by omega)]; omega
   have w3 : IntKind.u8.wrap (X : Int) = (X : Int) := by rw [IntKind.wrap_u8]; omega
   have w4 : IntKind.i64.wrap ((m / 128 : Nat) : Int) = ((m / 128 : Nat) : Int) := IntWalk.i64_in _ (by omega)
   generalize hr1 : m % 128 = r1 at *
   generalize hd1 : m / 128 = d1 at *
   clear hr hX hd1 hr1
   go_wp2_with (at_builtin; refine wpList_append_own _ rfl (.tmp 7) (.tmp 12) 27 rfl LO 5 i0 (.int .u8 0) 1 1 Tryz.underlying27 hi0 hz0 hz1 hz2 rfl (by decide) _ _ _ rfl HO.out ⟨wr.heap.size, 0, none⟩ 1 1 [.int .u8 (X : Int)] rfl rfl (news1 _ _ _) O1.out H2 H3 H4 ?_; intro v' w3 hown3 hg3 _; obtain ⟨A4, c4, rfl, P4⟩ := NX.out w3 v' hown3 hg3; have P4 := Lib.hid P4; clear hown3 hg3 NX HO)
   go_roundw
   case rel => exact ⟨zs ++ [(X : Int)], d1, f', A4, c4, by rw [zl], by go_num, by rw [zl]; omega, mle, mf', P4⟩
   case measure => simp [intOf]; omega
  ·have bi : ¬ (128 : Int) ≤ (m : Int) := by omega
   have w3 : IntKind.u8.wrap (m : Int) = (m : Int) := by rw [IntKind.wrap_u8]; omega
   have w3' : (m : Int) % 256 = (m : Int) := by omega
   have HO := Lib.hid (hr.out.1.alloc (.cells #[.int .u8 (m : Int)] 5))
   have O1 : Hid (∀ u ∈ [Value.int .u8 (m : Int)], u.oneCell' = true) := Lib.hid (by intro u hu; simp at hu; subst hu; rfl)
   have H2 : zs.length + 1 ≤ maxLen := by unfold maxLen; omega
   have H3 : (zs.length + 1) * 1 ≤ 140737488355328 := by omega
   have H4 : LO ≤ (wr.alloc (.cells #[.int .u8 (m : Int)] 5)).heap.size := by have := hr.out.2.2.1; simp; omega
   have NX : Hid (∀ (w3 : World) (v' : Value), w3.ownsRow LO 5 1 v' (zs.length + 1) (bts zs ++ [.int .u8 (m : Int)]) → (wr.alloc (.cells #[.int .u8 (m : Int)] 5)).grownBy w3 (Value.slice A' zs.length c').ownBlock → w3.ownsRow LO 5 1 v' R.length (bts R) ∧ Below LO W w3 ∧ KeepU W w3) := Lib.hid (fun w3 v' ho hg => by
    obtain ⟨q1, q2⟩ := own_push hr.out.1 hr.out.2.2.1 ho hg
    have z := hr.out.2.2.2.1
    rw [numF_small f (m : Int) (by omega)] at z
    rw [z] at q1
    exact ⟨q1, hr.out.2.1.trans q2, hr.out.2.2.2.2.trans (keepU_push hr.out.1 hg)⟩)
   clear hr
   go_wp2_with (at_builtin; refine wpList_append_own _ rfl (.tmp 16) (.tmp 19) 27 rfl LO 5 i0 (.int .u8 0) 1 1 Tryz.underlying27 hi0 hz0 hz1 hz2 rfl (by decide) _ _ _ rfl HO.out ⟨wr.heap.size, 0, none⟩ 1 1 [.int .u8 (m : Int)] rfl rfl (news1 _ _ _) O1.out H2 H3 H4 ?_; intro v' w3 hown3 hg3 _; have P4 := Lib.hid (NX.out w3 v' hown3 hg3); clear hown3 hg3 NX HO)
   go_ret
   exact ⟨_, rfl, P4.out.1, P4.out.2.1, P4.out.2.2⟩
set_option maxRecDepth 100000 in
theorem r_Sized (w h : Int) (W : World) : Calls Tryz.prog 38 #[.agg #[.int .i64 w, .int .i64 h]] W fun e w' => e = .returned (.bool (sizedB w h)) ∧ Below W.heap.size W w' := by
 obtain ⟨Q, hQ⟩ : ∃ Q, Q = W.alloc (.cells #[.int .i64 w, .int .i64 h] 23) := ⟨_, rfl⟩
 have BQ := Lib.hid (show Below W.heap.size W Q by rw [hQ]; exact (Below.refl _ W).alloc (Nat.le_refl _) _)
 have K : Bk Q W.heap.size [.int .i64 w, .int .i64 h] 23 := by rw [hQ]; exact Bk.new W _ _
 have k0 := K.c 0 _ rfl
 have k1 := K.c 1 _ rfl
 have HQ := Lib.hid hQ
 clear K hQ
 by_cases a1 : 0 ≤ w
 case neg =>
  have DD : Hid (sizedB w h = false) := Lib.hid (sized_no (fun z => a1 z.1))
  go_enter Tryz.func38, Tryz.ntmps38
  go_upto_region 1 with fail
  rw [← HQ.out]
  go_wp2_with fail
  go_ret
  exact ⟨by rw [DD.out]; rfl, BQ.out⟩
 by_cases a2 : w ≤ 4096
 case neg =>
  have DD : Hid (sizedB w h = false) := Lib.hid (sized_no (fun z => a2 z.2.1))
  go_enter Tryz.func38, Tryz.ntmps38
  go_upto_region 1 with fail
  rw [← HQ.out]
  go_wp2_with fail
  go_ret
  exact ⟨by rw [DD.out]; rfl, BQ.out⟩
 by_cases a3 : 0 ≤ h
 case neg =>
  have DD : Hid (sizedB w h = false) := Lib.hid (sized_no (fun z => a3 z.2.2.1))
  go_enter Tryz.func38, Tryz.ntmps38
  go_upto_region 1 with fail
  rw [← HQ.out]
  go_wp2_with fail
  go_ret
  exact ⟨by rw [DD.out]; rfl, BQ.out⟩
 by_cases a4 : h ≤ 4096
 case neg =>
  have DD : Hid (sizedB w h = false) := Lib.hid (sized_no (fun z => a4 z.2.2.2))
  go_enter Tryz.func38, Tryz.ntmps38
  go_upto_region 1 with fail
  rw [← HQ.out]
  go_wp2_with fail
  go_ret
  exact ⟨by rw [DD.out]; rfl, BQ.out⟩
 have p0 : 0 ≤ w * h := Int.mul_nonneg a1 a3
 have p1 : w * h ≤ 4096 * 4096 := Int.mul_le_mul a2 a4 a3 (by decide)
 have mw : IntKind.i64.wrap (w * h) = w * h := IntWalk.i64_in _ (by omega)
 have DD : Hid (sizedB w h = decide (w * h ≤ 1048576)) := Lib.hid (sized_yes a1 a2 a3 a4)
 go_enter Tryz.func38, Tryz.ntmps38
 go_upto_region 1 with fail
 rw [← HQ.out]
 go_wp2_with fail
 go_ret
 exact ⟨by rw [DD.out]; rfl, BQ.out⟩
set_option maxHeartbeats 4000000 in
set_option maxRecDepth 100000 in
theorem r_Many (A : Option Addr) (c : Nat) (L : List FA) (B : Nat) (W : World) (h : FrsD W B A c L) (hB : B ≤ W.heap.size) : Calls Tryz.prog 39 #[.slice A L.length c] W fun e w' => e = .returned (.bool (manyB (frms L))) ∧ Below W.heap.size W w' := by
 have CE := Lib.hid (h.cells hB)
 have ub : L.length ≤ 140737488355328 := by have := h.cap; have := h.sz; omega
 obtain ⟨n, hn⟩ : ∃ n, n = L.length := ⟨_, rfl⟩
 have HN := Lib.hid hn
 have MB : Hid (manyB (frms L) = (longB (frms L) || decide (16384 < n))) := Lib.hid (by unfold manyB; rw [frms_len, hn])
 rw [← hn] at ub ⊢
 clear h hn
 have B0 := Lib.hid (Below.refl W.heap.size W)
 by_cases big : 16384 < n
 ·have bi : (16384 : Int) < (n : Int) := by omega
  have DD : Hid (manyB (frms L) = true) := Lib.hid (by rw [MB.out, decide_eq_true big, Bool.or_true])
  clear CE
  go_enter Tryz.func39, Tryz.ntmps39
  go_wp2_with fail
  go_ret
  exact ⟨by rw [DD.out]; rfl, B0.out⟩
 have bi : ¬ (16384 : Int) < (n : Int) := by omega
 go_enter Tryz.func39, Tryz.ntmps39
 go_wp2_with fail
 go_loopw [3] (fun i wr => ∃ k : Nat, k ≤ n ∧ i = .int .i64 (k : Int) ∧ Hid (Below W.heap.size W wr ∧ ∀ j, (hj : j < L.length) → j < k → ¬ 1048576 < (L[j]).b.bs.length)) (fun i _ => n - (intOf i).toNat)
 case atStart => exact ⟨0, Nat.zero_le _, by simp, Lib.hid ⟨B0.out, fun j _ h => by omega⟩⟩
 case round =>
  obtain ⟨k, hk, rfl, hr⟩ := hrel
  clear B0
  by_cases lt : k < n
  ·have kl : k < L.length := by rw [← HN.out]; exact lt
   obtain ⟨ad, rfl, z1, z2⟩ := CE.out k wr kl hr.out.1
   have XL := Lib.hid (fun h : 1048576 < (L[k]).b.bs.length => long_yes kl h)
   have NX : Hid (¬ 1048576 < (L[k]).b.bs.length → ∀ j, (hj : j < L.length) → j < k + 1 → ¬ 1048576 < (L[j]).b.bs.length) := Lib.hid (fun q j hj hjk => by
    rcases Nat.lt_or_ge j k with a | a
    ·exact hr.out.2 j hj a
    ·have e : j = k := by omega
     subst e; exact q)
   generalize (L[k]).b.bs.length = x at *
   generalize (L[k]).b.A = xA at *
   generalize (L[k]).b.c = xc at *
   generalize (L[k]).at_ = xt at *
   have q0 : (0 : Int) ≤ (k : Int) := by omega
   have q5 : (k : Int) < (n : Int) := by omega
   have tn : (k : Int).toNat = k := by omega
   have wk : IntKind.i64.wrap ((k : Int) + 1) = (k : Int) + 1 := IntWalk.i64_in _ (by omega)
   by_cases xb : 1048576 < x
   ·have xi : (1048576 : Int) < (x : Int) := by omega
    have DD : Hid (manyB (frms L) = true) := Lib.hid (by rw [MB.out, XL.out xb, Bool.true_or])
    have BB := Lib.hid hr.out.1
    clear CE XL NX hr
    go_wp2_with fail
    go_ret
    exact ⟨by rw [DD.out]; rfl, BB.out⟩
   ·have xi : ¬ (1048576 : Int) < (x : Int) := by omega
    have R2 := Lib.hid (And.intro hr.out.1 (NX.out xb))
    clear CE XL NX hr
    go_wp2_with fail
    go_roundw
    case rel => exact ⟨k + 1, by omega, by go_num, R2⟩
    case measure => simp [intOf]; omega
  ·have ek : k = n := by omega
   subst ek
   have q5 : ¬ (k : Int) < (k : Int) := by omega
   have DD : Hid (manyB (frms L) = false) := Lib.hid (by rw [MB.out, long_no (fun j hj => hr.out.2 j hj (by rw [HN.out]; exact hj)), decide_eq_false (by omega)]; rfl)
   clear CE
   go_wp2_with fail
   go_ret
   exact ⟨by rw [DD.out]; first | rfl | (simp; done), hr.out.1⟩
set_option maxHeartbeats 4000000 in
set_option maxRecDepth 100000 in
theorem r_InTime (A : Option Addr) (c : Nat) (L : List FA) (B : Nat) (W : World) (h : FrsD W B A c L) (hB : B ≤ W.heap.size) : Calls Tryz.prog 40 #[.slice A L.length c] W fun e w' => e = .returned (.bool (timedB (frms L))) ∧ Below W.heap.size W w' := by
 have CE := Lib.hid (h.cells hB)
 have ub : L.length ≤ 140737488355328 := by have := h.cap; have := h.sz; omega
 obtain ⟨n, hn⟩ : ∃ n, n = L.length := ⟨_, rfl⟩
 have HN := Lib.hid hn
 obtain ⟨R, hR⟩ : ∃ R, R = timedB (frms L) := ⟨_, rfl⟩
 have HR := Lib.hid (show timedF 0 (frms (L.drop 0)) = R by rw [hR]; rfl)
 rw [← hn] at ub
 rw [← hn, ← hR]
 clear h hn hR
 have B0 := Lib.hid (Below.refl W.heap.size W)
 go_enter Tryz.func40, Tryz.ntmps40
 go_wp2_with fail
 go_loopw [3, 4] (fun s3 i wr => ∃ (k : Nat) (last : Int), k ≤ n ∧ s3 = .int .i64 last ∧ i = .int .i64 (k : Int) ∧ Hid (Below W.heap.size W wr) ∧ Hid (timedF last (frms (L.drop k)) = R)) (fun _ i _ => n - (intOf i).toNat)
 case atStart => exact ⟨0, 0, Nat.zero_le _, rfl, by simp, B0, HR⟩
 case round =>
  obtain ⟨k, last, hk, rfl, rfl, hr, ht⟩ := hrel
  clear B0 HR
  by_cases lt : k < n
  ·have kl : k < L.length := by rw [← HN.out]; exact lt
   obtain ⟨ad, rfl, z1, z2⟩ := CE.out k wr kl hr.out
   have ST := Lib.hid ((timed_step kl last).symm.trans ht.out)
   generalize (L[k]).b.bs.length = x at *
   generalize (L[k]).b.A = xA at *
   generalize (L[k]).b.c = xc at *
   generalize (L[k]).at_ = xt at *
   have q0 : (0 : Int) ≤ (k : Int) := by omega
   have q5 : (k : Int) < (n : Int) := by omega
   have tn : (k : Int).toNat = k := by omega
   have wk : IntKind.i64.wrap ((k : Int) + 1) = (k : Int) + 1 := IntWalk.i64_in _ (by omega)
   clear CE ht
   by_cases c1 : xt < last
   ·have DD : Hid (R = false) := Lib.hid (by rw [← ST.out, decide_eq_false (by omega), Bool.false_and])
    clear ST
    go_wp2_with fail
    go_ret
    exact ⟨by rw [DD.out]; rfl, hr.out⟩
   by_cases c2 : 1099511627776 < xt
   ·have DD : Hid (R = false) := Lib.hid (by rw [← ST.out, decide_eq_false (by omega), Bool.false_and])
    clear ST
    go_wp2_with fail
    go_ret
    exact ⟨by rw [DD.out]; rfl, hr.out⟩
   have NX : Hid (timedF xt (frms (L.drop (k + 1))) = R) := Lib.hid (by rw [← ST.out, decide_eq_true (by omega), Bool.true_and])
   clear ST
   go_wp2_with fail
   go_roundw
   case rel => exact ⟨k + 1, xt, by omega, rfl, by go_num, hr, NX⟩
   case measure => simp [intOf]; omega
  ·have ek : k = n := by omega
   subst ek
   have q5 : ¬ (k : Int) < (k : Int) := by omega
   have DD : Hid (R = true) := Lib.hid (by
    rw [← ht.out, List.drop_of_length_le (by rw [← HN.out]; exact Nat.le_refl _)]; rfl)
   clear CE ht
   go_wp2_with fail
   go_ret
   exact ⟨by rw [DD.out]; rfl, hr.out⟩
set_option maxHeartbeats 4000000 in
set_option maxRecDepth 100000 in
theorem r_Sum (A : Option Addr) (c : Nat) (D : List Int) (B : Nat) (W : World) (S : Sees W B A (D.map (.int .u8))) (rng : Byt D) (ub : D.length ≤ 1000000000) : Calls Tryz.prog 42 #[.slice A D.length c] W fun e w' => e = .returned (.int .u32 (sumL D)) ∧ w' = W := by
 have SD := Lib.hid S
 have RG := Lib.hid rng
 obtain ⟨n, hn⟩ : ∃ n, n = D.length := ⟨_, rfl⟩
 have HN := Lib.hid hn
 have SU : Hid (sumL D = 65536 * (sumF D 1 0).2 + (sumF D 1 0).1) := Lib.hid rfl
 rw [← hn] at ub
 rw [← hn]
 clear S rng hn
 go_enter Tryz.func42, Tryz.ntmps42
 go_wp2_with fail
 go_loopw [3, 4, 5] (fun s3 s4 i wr => ∃ (k : Nat) (a cc : Int), k ≤ n ∧ s3 = .int .u32 a ∧ s4 = .int .u32 cc ∧ i = .int .i64 (k : Int) ∧ (0 ≤ a ∧ a < 65521) ∧ (0 ≤ cc ∧ cc < 65521) ∧ Hid (sumF (D.drop k) a cc = sumF D 1 0) ∧ wr = W) (fun _ _ i _ => n - (intOf i).toNat)
 case atStart => exact ⟨0, 1, 0, Nat.zero_le _, rfl, rfl, rfl, by decide, by decide, Lib.hid rfl, rfl⟩
 case round =>
  obtain ⟨k, a, cc, hk, rfl, rfl, rfl, ⟨a0, a1⟩, ⟨c0, c1⟩, hs, ew⟩ := hrel
  by_cases lt : k < n
  ·have kl : k < D.length := by rw [← HN.out]; exact lt
   obtain ⟨ad, rfl, bl, z⟩ := sees_byte SD.out k kl
   have xr := RG.out (D.getD k 0) (by rw [List.getD_eq_getElem?_getD, List.getElem?_eq_getElem kl]; exact List.getElem_mem kl)
   have ST := Lib.hid ((sum_step kl a cc).symm.trans hs.out)
   generalize D.getD k 0 = x at *
   obtain ⟨x0, x1⟩ := xr
   have q0 : (0 : Int) ≤ (k : Int) := by omega
   have q5 : (k : Int) < (n : Int) := by omega
   have tn : (k : Int).toNat = k := by omega
   have wk : IntKind.i64.wrap ((k : Int) + 1) = (k : Int) + 1 := IntWalk.i64_in _ (by omega)
   have w0 : IntKind.u32.wrap x = x := u32_in _ (by omega)
   have w1 : IntKind.u32.wrap (a + x) = a + x := u32_in _ (by omega)
   obtain ⟨a2, ha2⟩ : ∃ a2, a2 = (a + x) % 65521 := ⟨_, rfl⟩
   have t1 : Int.tmod (a + x) 65521 = a2 := by rw [ha2, Int.tmod_eq_emod_of_nonneg (by omega)]
   have w2 : IntKind.u32.wrap a2 = a2 := u32_in _ (by omega)
   have w3 : IntKind.u32.wrap (cc + a2) = cc + a2 := u32_in _ (by omega)
   obtain ⟨c2, hc2⟩ : ∃ c2, c2 = (cc + a2) % 65521 := ⟨_, rfl⟩
   have t2 : Int.tmod (cc + a2) 65521 = c2 := by rw [hc2, Int.tmod_eq_emod_of_nonneg (by omega)]
   have w4 : IntKind.u32.wrap c2 = c2 := u32_in _ (by omega)
   have NX : Hid (sumF (D.drop (k + 1)) a2 c2 = sumF D 1 0 ∧ (0 ≤ a2 ∧ a2 < 65521) ∧ (0 ≤ c2 ∧ c2 < 65521)) := Lib.hid ⟨by rw [← ST.out, ← ha2, ← hc2], by omega, by omega⟩
   rw [← ew] at z
   have EW := Lib.hid ew
   clear ha2 hc2 ST hs ew
   go_wp2_with fail
   go_roundw
   case rel => exact ⟨k + 1, a2, c2, by omega, rfl, rfl, by go_num, NX.out.2.1, NX.out.2.2, Lib.hid NX.out.1, EW.out⟩
   case measure => simp [intOf]; omega
  ·have ek : k = n := by omega
   subst ek
   have q5 : ¬ (k : Int) < (k : Int) := by omega
   have FS : Hid (sumL D = 65536 * cc + a) := Lib.hid (by
    rw [SU.out, ← hs.out, List.drop_of_length_le (by rw [← HN.out]; exact Nat.le_refl _)]; rfl)
   obtain ⟨cn, rfl⟩ : ∃ cn : Nat, cc = (cn : Int) := ⟨cc.toNat, by omega⟩
   obtain ⟨an, rfl⟩ : ∃ an : Nat, a = (an : Int) := ⟨a.toNat, by omega⟩
   have v1 : IntKind.u32.wrap ((cn : Int) * 65536) = ((65536 * cn : Nat) : Int) := by rw [u32_in _ (by omega)]; omega
   have v2 : IntKind.u32.wrap (65536 * (cn : Int)) = ((65536 * cn : Nat) : Int) := by rw [u32_in _ (by omega)]; omega
   have v3 := or_sum an cn (by omega) (by omega)
   have v4 : IntKind.u32.wrap (((65536 * cn : Nat) : Int) + (an : Int)) = ((65536 * cn + an : Nat) : Int) := by rw [u32_in _ (by omega)]; omega
   generalize hX : 65536 * cn = X at *
   have EW := Lib.hid ew
   have FIN : Hid (65536 * (cn : Int) + (an : Int) = ((X + an : Nat) : Int)) := Lib.hid (by omega)
   clear hs SD ew hX
   go_wp2_with fail
   go_ret
   exact ⟨by rw [FS.out, FIN.out]; rfl, EW.out⟩
end
end Go.Proofs.YtmaofighbpnbiaaGreatDoor
