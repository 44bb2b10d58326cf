/- A tape's size, frames and sum: both sides. (Written by gen_tpu.py.) -/
import Derived.Test.YtmaofighbpnbiaaGreatDoorYTpO
import Derived.Test.YtmaofighbpnbiaaGreatDoorYTpB
import Derived.Test.YtmaofighbpnbiaaGreatDoorYTpT
import Derived.Test.YtmaofighbpnbiaaGreatDoorTaCE
namespace Go.Proofs.YtmaofighbpnbiaaGreatDoor
open Go Go.RowKit Go.Sort
set_option linter.unusedVariables false
set_option linter.unusedSimpArgs false
section
theorem sized_yes {w h : Int} (a1 : 0 ≤ w) (a2 : w ≤ 4096) (a3 : 0 ≤ h) (a4 : h ≤ 4096) : sizedB w h = decide (w * h ≤ 1048576) := by
 unfold sizedB
 by_cases c : w * h ≤ 1048576
 ·rw [decide_eq_true c]; exact decide_eq_true ⟨a1, a2, a3, a4, c⟩
 ·rw [decide_eq_false c]; exact decide_eq_false (fun z => c z.2.2.2.2)
theorem sized_no {w h : Int} (a : ¬ (0 ≤ w ∧ w ≤ 4096 ∧ 0 ≤ h ∧ h ≤ 4096)) : sizedB w h = false := decide_eq_false (fun z => a ⟨z.1, z.2.1, z.2.2.1, z.2.2.2.1⟩)
set_option maxRecDepth 100000 in
theorem t_sized (w h : Int) (W : World) : Calls Tryz.prog 43 #[.agg #[.int .i64 w, .int .i64 h]] W fun e w' => e = .returned (.bool (sizedB w h)) ∧ Below W.heap.size W w' := by
 obtain ⟨Q, hQ⟩ : ∃ Q, Q = W.alloc (.cells #[.int .i64 w, .int .i64 h] 23) := ⟨_, rfl⟩
 have BQ := Lib.hid (show Below W.heap.size W Q by rw [hQ]; exact (Below.refl _ W).alloc (Nat.le_refl _) _)
 have K : Bk Q W.heap.size [.int .i64 w, .int .i64 h] 23 := by rw [hQ]; exact Bk.new W _ _
 have k0 := K.c 0 _ rfl
 have k1 := K.c 1 _ rfl
 have HQ := Lib.hid hQ
 clear K hQ
 by_cases a1 : 0 ≤ w
 case neg =>
  have DD : Hid (sizedB w h = false) := Lib.hid (sized_no (fun z => a1 z.1))
  go_enter Tryz.func43, Tryz.ntmps43
  go_upto_region 1 with fail
  rw [← HQ.out]
  go_wp2_with fail
  go_ret
  exact ⟨by rw [DD.out]; rfl, BQ.out⟩
 by_cases a2 : w ≤ 4096
 case neg =>
  have DD : Hid (sizedB w h = false) := Lib.hid (sized_no (fun z => a2 z.2.1))
  go_enter Tryz.func43, Tryz.ntmps43
  go_upto_region 1 with fail
  rw [← HQ.out]
  go_wp2_with fail
  go_ret
  exact ⟨by rw [DD.out]; rfl, BQ.out⟩
 by_cases a3 : 0 ≤ h
 case neg =>
  have DD : Hid (sizedB w h = false) := Lib.hid (sized_no (fun z => a3 z.2.2.1))
  go_enter Tryz.func43, Tryz.ntmps43
  go_upto_region 1 with fail
  rw [← HQ.out]
  go_wp2_with fail
  go_ret
  exact ⟨by rw [DD.out]; rfl, BQ.out⟩
 by_cases a4 : h ≤ 4096
 case neg =>
  have DD : Hid (sizedB w h = false) := Lib.hid (sized_no (fun z => a4 z.2.2.2))
  go_enter Tryz.func43, Tryz.ntmps43
  go_upto_region 1 with fail
  rw [← HQ.out]
  go_wp2_with fail
  go_ret
  exact ⟨by rw [DD.out]; rfl, BQ.out⟩
 have p0 : 0 ≤ w * h := Int.mul_nonneg a1 a3
 have p1 : w * h ≤ 4096 * 4096 := Int.mul_le_mul a2 a4 a3 (by decide)
 have mw : IntKind.i64.wrap (w * h) = w * h := IntWalk.i64_in _ (by omega)
 have DD : Hid (sizedB w h = decide (w * h ≤ 1048576)) := Lib.hid (sized_yes a1 a2 a3 a4)
 go_enter Tryz.func43, Tryz.ntmps43
 go_upto_region 1 with fail
 rw [← HQ.out]
 go_wp2_with fail
 go_ret
 exact ⟨by rw [DD.out]; rfl, BQ.out⟩
theorem FrsD.cells {w : World} {B : Nat} {A : Option Addr} {c : Nat} {L : List FA} (h : FrsD w B A c L) (hB : B ≤ w.heap.size) : ∀ k wr, (hk : k < L.length) → Below w.heap.size w wr → ∃ ad, A = some ad ∧ wr.cell? (ad.add (k * 2)) = some (.int .i64 (L[k]).at_) ∧ wr.cell? ⟨(ad.add (k * 2)).block, (ad.add (k * 2)).off + 1, none⟩ = some (.slice (L[k]).b.A (L[k]).b.bs.length (L[k]).b.c) := fun k wr hk hb => by
 obtain ⟨ad, e, h1, h2, h3⟩ := h.at k hk
 exact ⟨ad, e, (hb.cell (p := ad.add (k * 2)) (by rw [add_blk]; omega)).trans h2, (hb.cell (p := ⟨(ad.add (k * 2)).block, (ad.add (k * 2)).off + 1, none⟩) (by simp only [add_blk]; omega)).trans h3⟩
def frms (L : List FA) : List Frm := L.map FA.frm
theorem frms_len (L : List FA) : (frms L).length = L.length := by unfold frms; rw [List.length_map]
theorem long_yes {L : List FA} {k : Nat} (hk : k < L.length) (h : 1048576 < (L[k]).b.bs.length) : longB (frms L) = true := by
 unfold longB frms
 rw [List.any_map, List.any_eq_true]
 exact ⟨L[k], List.getElem_mem hk, decide_eq_true h⟩
theorem long_no {L : List FA} (h : ∀ k, (hk : k < L.length) → ¬ 1048576 < (L[k]).b.bs.length) : longB (frms L) = false := by
 unfold longB frms
 rw [List.any_map, List.any_eq_false]
 intro x m
 obtain ⟨k, hk, rfl⟩ := List.mem_iff_getElem.1 m
 have := h k hk
 exact fun z => this (of_decide_eq_true z)
set_option maxHeartbeats 4000000 in
set_option maxRecDepth 100000 in
theorem t_many (A : Option Addr) (c : Nat) (L : List FA) (B : Nat) (W : World) (h : FrsD W B A c L) (hB : B ≤ W.heap.size) : Calls Tryz.prog 61 #[.slice A L.length c] W fun e w' => e = .returned (.bool (manyB (frms L))) ∧ Below W.heap.size W w' := by
 have CE := Lib.hid (h.cells hB)
 have ub : L.length ≤ 140737488355328 := by have := h.cap; have := h.sz; omega
 obtain ⟨n, hn⟩ : ∃ n, n = L.length := ⟨_, rfl⟩
 have HN := Lib.hid hn
 have MB : Hid (manyB (frms L) = (longB (frms L) || decide (16384 < n))) := Lib.hid (by unfold manyB; rw [frms_len, hn])
 rw [← hn] at ub ⊢
 clear h hn
 have B0 := Lib.hid (Below.refl W.heap.size W)
 go_enter Tryz.func61, Tryz.ntmps61
 go_wp2_with fail
 go_loopw [7] (fun i wr => ∃ k : Nat, k ≤ n ∧ i = .int .i64 (k : Int) ∧ Hid (Below W.heap.size W wr ∧ ∀ j, (hj : j < L.length) → j < k → ¬ 1048576 < (L[j]).b.bs.length)) (fun i _ => n - (intOf i).toNat)
 case atStart => exact ⟨0, Nat.zero_le _, by simp, Lib.hid ⟨B0.out, fun j _ h => by omega⟩⟩
 case round =>
  obtain ⟨k, hk, rfl, hr⟩ := hrel
  clear B0
  by_cases lt : k < n
  ·have kl : k < L.length := by rw [← HN.out]; exact lt
   obtain ⟨ad, rfl, z1, z2⟩ := CE.out k wr kl hr.out.1
   have XL := Lib.hid (fun h : 1048576 < (L[k]).b.bs.length => long_yes kl h)
   have NX : Hid (¬ 1048576 < (L[k]).b.bs.length → ∀ j, (hj : j < L.length) → j < k + 1 → ¬ 1048576 < (L[j]).b.bs.length) := Lib.hid (fun q j hj hjk => by
    rcases Nat.lt_or_ge j k with a | a
    ·exact hr.out.2 j hj a
    ·have e : j = k := by omega
     subst e; exact q)
   generalize (L[k]).b.bs.length = x at *
   generalize (L[k]).b.A = xA at *
   generalize (L[k]).b.c = xc at *
   generalize (L[k]).at_ = xt at *
   have q0 : (0 : Int) ≤ (k : Int) := by omega
   have q5 : (k : Int) < (n : Int) := by omega
   have tn : (k : Int).toNat = k := by omega
   have wk : IntKind.i64.wrap ((k : Int) + 1) = (k : Int) + 1 := IntWalk.i64_in _ (by omega)
   obtain ⟨Q, hQ⟩ : ∃ Q, Q = wr.alloc (.cells #[.int .i64 xt, .slice xA x xc] 47) := ⟨_, rfl⟩
   have BQ := Lib.hid (hr.out.1.trans ((show Below wr.heap.size wr Q by rw [hQ]; exact (Below.refl _ wr).alloc (Nat.le_refl _) _).mono hr.out.1.size))
   have K : Bk Q wr.heap.size [.int .i64 xt, .slice xA x xc] 47 := by rw [hQ]; exact Bk.new wr _ _
   have k1 := K.c 1 _ rfl
   have HQ := Lib.hid hQ
   clear K hQ
   by_cases xb : 1048576 < x
   ·have xi : (1048576 : Int) < (x : Int) := by omega
    have DD : Hid (manyB (frms L) = true) := Lib.hid (by rw [MB.out, XL.out xb, Bool.true_or])
    have BB := Lib.hid BQ.out
    clear CE XL NX hr
    go_upto_region 4 with fail
    rw [← HQ.out]
    go_wp2_with fail
    go_ret
    exact ⟨by rw [DD.out]; rfl, BB.out⟩
   ·have xi : ¬ (1048576 : Int) < (x : Int) := by omega
    have R2 := Lib.hid (And.intro BQ.out (NX.out xb))
    clear CE XL NX hr
    go_upto_region 4 with fail
    rw [← HQ.out]
    go_wp2_with fail
    go_roundw
    case rel => exact ⟨k + 1, by omega, by go_num, R2⟩
    case measure => simp [intOf]; omega
  ·have ek : k = n := by omega
   subst ek
   have q5 : ¬ (k : Int) < (k : Int) := by omega
   have DD : Hid (manyB (frms L) = decide ((16384 : Int) < (k : Int))) := Lib.hid (by
    rw [MB.out, long_no (fun j hj => hr.out.2 j hj (by rw [HN.out]; exact hj)), Bool.false_or]
    by_cases c : 16384 < k
    ·rw [decide_eq_true c, decide_eq_true (by omega)]
    ·rw [decide_eq_false c, decide_eq_false (by omega)])
   clear CE
   go_wp2_with fail
   go_ret
   exact ⟨by rw [DD.out]; first | rfl | (simp; done), hr.out.1⟩
theorem timed_step {L : List FA} {k : Nat} (hk : k < L.length) (last : Int) : timedF last (frms (L.drop k)) = (decide (last ≤ (L[k]).at_ ∧ (L[k]).at_ ≤ 1099511627776) && timedF (L[k]).at_ (frms (L.drop (k + 1)))) := by
 rw [List.drop_eq_getElem_cons hk]
 rfl
set_option maxHeartbeats 4000000 in
set_option maxRecDepth 100000 in
theorem t_timed (A : Option Addr) (c : Nat) (L : List FA) (B : Nat) (W : World) (h : FrsD W B A c L) (hB : B ≤ W.heap.size) : Calls Tryz.prog 62 #[.slice A L.length c] W fun e w' => e = .returned (.bool (timedB (frms L))) ∧ Below W.heap.size W w' := by
 have CE := Lib.hid (h.cells hB)
 have ub : L.length ≤ 140737488355328 := by have := h.cap; have := h.sz; omega
 obtain ⟨n, hn⟩ : ∃ n, n = L.length := ⟨_, rfl⟩
 have HN := Lib.hid hn
 obtain ⟨R, hR⟩ : ∃ R, R = timedB (frms L) := ⟨_, rfl⟩
 have HR := Lib.hid (show timedF 0 (frms (L.drop 0)) = R by rw [hR]; rfl)
 rw [← hn] at ub
 rw [← hn, ← hR]
 clear h hn hR
 have B0 := Lib.hid (Below.refl W.heap.size W)
 go_enter Tryz.func62, Tryz.ntmps62
 go_wp2_with fail
 go_loopw [3, 8] (fun s3 i wr => ∃ (k : Nat) (last : Int), k ≤ n ∧ s3 = .int .i64 last ∧ i = .int .i64 (k : Int) ∧ Hid (Below W.heap.size W wr) ∧ Hid (timedF last (frms (L.drop k)) = R)) (fun _ i _ => n - (intOf i).toNat)
 case atStart => exact ⟨0, 0, Nat.zero_le _, rfl, by simp, B0, HR⟩
 case round =>
  obtain ⟨k, last, hk, rfl, rfl, hr, ht⟩ := hrel
  clear B0 HR
  by_cases lt : k < n
  ·have kl : k < L.length := by rw [← HN.out]; exact lt
   obtain ⟨ad, rfl, z1, z2⟩ := CE.out k wr kl hr.out
   have ST := Lib.hid ((timed_step kl last).symm.trans ht.out)
   generalize (L[k]).b.bs.length = x at *
   generalize (L[k]).b.A = xA at *
   generalize (L[k]).b.c = xc at *
   generalize (L[k]).at_ = xt at *
   have q0 : (0 : Int) ≤ (k : Int) := by omega
   have q5 : (k : Int) < (n : Int) := by omega
   have tn : (k : Int).toNat = k := by omega
   have wk : IntKind.i64.wrap ((k : Int) + 1) = (k : Int) + 1 := IntWalk.i64_in _ (by omega)
   clear CE ht
   obtain ⟨Q, hQ⟩ : ∃ Q, Q = wr.alloc (.cells #[.int .i64 xt, .slice xA x xc] 47) := ⟨_, rfl⟩
   have BQ := Lib.hid (hr.out.trans ((show Below wr.heap.size wr Q by rw [hQ]; exact (Below.refl _ wr).alloc (Nat.le_refl _) _).mono hr.out.size))
   have K : Bk Q wr.heap.size [.int .i64 xt, .slice xA x xc] 47 := by rw [hQ]; exact Bk.new wr _ _
   have k0 := K.c 0 _ rfl
   have HQ := Lib.hid hQ
   clear K hQ
   by_cases c1 : xt < last
   ·have DD : Hid (R = false) := Lib.hid (by rw [← ST.out, decide_eq_false (by omega), Bool.false_and])
    clear ST
    go_upto_region 5 with fail
    rw [← HQ.out]
    go_wp2_with fail
    go_ret
    exact ⟨by rw [DD.out]; rfl, BQ.out⟩
   by_cases c2 : 1099511627776 < xt
   ·have DD : Hid (R = false) := Lib.hid (by rw [← ST.out, decide_eq_false (by omega), Bool.false_and])
    clear ST
    go_upto_region 5 with fail
    rw [← HQ.out]
    go_wp2_with fail
    go_ret
    exact ⟨by rw [DD.out]; rfl, BQ.out⟩
   have NX : Hid (timedF xt (frms (L.drop (k + 1))) = R) := Lib.hid (by rw [← ST.out, decide_eq_true (by omega), Bool.true_and])
   clear ST
   go_upto_region 5 with fail
   rw [← HQ.out]
   go_wp2_with fail
   go_roundw
   case rel => exact ⟨k + 1, xt, by omega, rfl, by go_num, BQ, NX⟩
   case measure => simp [intOf]; omega
  ·have ek : k = n := by omega
   subst ek
   have q5 : ¬ (k : Int) < (k : Int) := by omega
   have DD : Hid (R = true) := Lib.hid (by
    rw [← ht.out, List.drop_of_length_le (by rw [← HN.out]; exact Nat.le_refl _)]; rfl)
   clear CE ht
   go_wp2_with fail
   go_ret
   exact ⟨by rw [DD.out]; rfl, hr.out⟩
theorem t_check (A : Option Addr) (c : Nat) (L : List FA) (B : Nat) (W : World) (h : FrsD W B A c L) (hB : B ≤ W.heap.size) : Calls Tryz.prog 44 #[.slice A L.length c] W fun e w' => e = .returned (.int .i64 (checkT (frms L))) ∧ Below W.heap.size W w' := by
 have M := Lib.hid (t_many A c L B W h hB)
 have T := Lib.hid (fun (w1 : World) (hb : Below W.heap.size W w1) => t_timed A c L B w1 (h.below hb hB) (Nat.le_trans hB hb.size))
 have CK : Hid (checkT (frms L) = if manyB (frms L) then 3 else if timedB (frms L) then 0 else 301) := Lib.hid rfl
 generalize checkT (frms L) = R at *
 generalize manyB (frms L) = m at *
 generalize timedB (frms L) = t at *
 clear h
 go_enter Tryz.func44, Tryz.ntmps44
 go_wp2_with fail
 refine M.out.mono ?_; rintro e w1 ⟨rfl, hb1⟩
 have B1 := Lib.hid hb1
 have T1 := Lib.hid (T.out w1 hb1)
 clear M T hb1
 cases m with
 | true =>
  have DD : Hid (R = 3) := Lib.hid (by rw [CK.out]; rfl)
  clear T1
  go_wp2_with fail
  go_ret
  exact ⟨by rw [DD.out]; rfl, B1.out⟩
 | false =>
  go_wp2_with fail
  refine T1.out.mono ?_; rintro e w2 ⟨rfl, hb2⟩
  have B2 := Lib.hid (B1.out.trans (hb2.mono B1.out.size))
  clear T1 hb2
  cases t with
  | true =>
   have DD : Hid (R = 0) := Lib.hid (by rw [CK.out]; rfl)
   go_wp2_with fail
   go_ret
   exact ⟨by rw [DD.out]; rfl, B2.out⟩
  | false =>
   have DD : Hid (R = 301) := Lib.hid (by rw [CK.out]; rfl)
   go_wp2_with fail
   go_ret
   exact ⟨by rw [DD.out]; rfl, B2.out⟩
theorem sum_step {D : List Int} {k : Nat} (hk : k < D.length) (a c : Int) : sumF (D.drop k) a c = sumF (D.drop (k + 1)) ((a + D.getD k 0) % 65521) ((c + (a + D.getD k 0) % 65521) % 65521) := by
 rw [List.drop_eq_getElem_cons hk, sumF, List.getD_eq_getElem?_getD, List.getElem?_eq_getElem hk]
 rfl
theorem u32_in (n : Int) (h : 0 ≤ n ∧ n < 4294967296) : IntKind.u32.wrap n = n := by rw [IntKind.wrap_u32]; omega
theorem sees_byte {W : World} {B : Nat} {A : Option Addr} {D : List Int} (S : Sees W B A (D.map (.int .u8))) (k : Nat) (hk : k < D.length) : ∃ ad, A = some ad ∧ ad.block < B ∧ W.cell? (ad.add k) = some (.int .u8 (D.getD k 0)) := by
 obtain ⟨ad, e, h1, h2⟩ := S.at (k := k) (by rw [List.length_map]; exact hk)
 refine ⟨ad, e, h1, h2.trans ?_⟩
 rw [List.getElem_map, List.getD_eq_getElem?_getD, List.getElem?_eq_getElem hk]
 rfl
set_option maxHeartbeats 4000000 in
set_option maxRecDepth 100000 in
theorem t_sum (A : Option Addr) (c : Nat) (D : List Int) (B : Nat) (W : World) (S : Sees W B A (D.map (.int .u8))) (rng : Byt D) (ub : D.length ≤ 1000000000) : Calls Tryz.prog 46 #[.slice A D.length c] W fun e w' => e = .returned (.int .u32 (sumL D)) ∧ w' = W := by
 have SD := Lib.hid S
 have RG := Lib.hid rng
 obtain ⟨n, hn⟩ : ∃ n, n = D.length := ⟨_, rfl⟩
 have HN := Lib.hid hn
 have SU : Hid (sumL D = 65536 * (sumF D 1 0).2 + (sumF D 1 0).1) := Lib.hid rfl
 rw [← hn] at ub
 rw [← hn]
 clear S rng hn
 go_enter Tryz.func46, Tryz.ntmps46
 go_wp2_with fail
 go_loopw [3, 4, 8] (fun s3 s4 i wr => ∃ (k : Nat) (a cc : Int), k ≤ n ∧ s3 = .int .u32 a ∧ s4 = .int .u32 cc ∧ i = .int .i64 (k : Int) ∧ (0 ≤ a ∧ a < 65521) ∧ (0 ≤ cc ∧ cc < 65521) ∧ Hid (sumF (D.drop k) a cc = sumF D 1 0) ∧ wr = W) (fun _ _ i _ => n - (intOf i).toNat)
 case atStart => exact ⟨0, 1, 0, Nat.zero_le _, rfl, rfl, rfl, by decide, by decide, Lib.hid rfl, rfl⟩
 case round =>
  obtain ⟨k, a, cc, hk, rfl, rfl, rfl, ⟨a0, a1⟩, ⟨c0, c1⟩, hs, ew⟩ := hrel
  by_cases lt : k < n
  ·have kl : k < D.length := by rw [← HN.out]; exact lt
   obtain ⟨ad, rfl, bl, z⟩ := sees_byte SD.out k kl
   have xr := RG.out (D.getD k 0) (by rw [List.getD_eq_getElem?_getD, List.getElem?_eq_getElem kl]; exact List.getElem_mem kl)
   have ST := Lib.hid ((sum_step kl a cc).symm.trans hs.out)
   generalize D.getD k 0 = x at *
   obtain ⟨x0, x1⟩ := xr
   have q0 : (0 : Int) ≤ (k : Int) := by omega
   have q5 : (k : Int) < (n : Int) := by omega
   have tn : (k : Int).toNat = k := by omega
   have wk : IntKind.i64.wrap ((k : Int) + 1) = (k : Int) + 1 := IntWalk.i64_in _ (by omega)
   have w0 : IntKind.u32.wrap x = x := u32_in _ (by omega)
   have w1 : IntKind.u32.wrap (a + x) = a + x := u32_in _ (by omega)
   obtain ⟨a2, ha2⟩ : ∃ a2, a2 = (a + x) % 65521 := ⟨_, rfl⟩
   have t1 : Int.tmod (a + x) 65521 = a2 := by rw [ha2, Int.tmod_eq_emod_of_nonneg (by omega)]
   have w2 : IntKind.u32.wrap a2 = a2 := u32_in _ (by omega)
   have w3 : IntKind.u32.wrap (cc + a2) = cc + a2 := u32_in _ (by omega)
   obtain ⟨c2, hc2⟩ : ∃ c2, c2 = (cc + a2) % 65521 := ⟨_, rfl⟩
   have t2 : Int.tmod (cc + a2) 65521 = c2 := by rw [hc2, Int.tmod_eq_emod_of_nonneg (by omega)]
   have w4 : IntKind.u32.wrap c2 = c2 := u32_in _ (by omega)
   have NX : Hid (sumF (D.drop (k + 1)) a2 c2 = sumF D 1 0 ∧ (0 ≤ a2 ∧ a2 < 65521) ∧ (0 ≤ c2 ∧ c2 < 65521)) := Lib.hid ⟨by rw [← ST.out, ← ha2, ← hc2], by omega, by omega⟩
   rw [← ew] at z
   have EW := Lib.hid ew
   clear ha2 hc2 ST hs ew
   go_wp2_with fail
   go_roundw
   case rel => exact ⟨k + 1, a2, c2, by omega, rfl, rfl, by go_num, NX.out.2.1, NX.out.2.2, Lib.hid NX.out.1, EW.out⟩
   case measure => simp [intOf]; omega
  ·have ek : k = n := by omega
   subst ek
   have q5 : ¬ (k : Int) < (k : Int) := by omega
   have FS : Hid (sumL D = 65536 * cc + a) := Lib.hid (by
    rw [SU.out, ← hs.out, List.drop_of_length_le (by rw [← HN.out]; exact Nat.le_refl _)]; rfl)
   obtain ⟨cn, rfl⟩ : ∃ cn : Nat, cc = (cn : Int) := ⟨cc.toNat, by omega⟩
   obtain ⟨an, rfl⟩ : ∃ an : Nat, a = (an : Int) := ⟨a.toNat, by omega⟩
   have v1 : IntKind.u32.wrap ((cn : Int) * 65536) = ((65536 * cn : Nat) : Int) := by rw [u32_in _ (by omega)]; omega
   have v2 : IntKind.u32.wrap (65536 * (cn : Int)) = ((65536 * cn : Nat) : Int) := by rw [u32_in _ (by omega)]; omega
   have v3 := or_sum an cn (by omega) (by omega)
   have v4 : IntKind.u32.wrap (((65536 * cn : Nat) : Int) + (an : Int)) = ((65536 * cn + an : Nat) : Int) := by rw [u32_in _ (by omega)]; omega
   generalize hX : 65536 * cn = X at *
   have EW := Lib.hid ew
   have FIN : Hid (65536 * (cn : Int) + (an : Int) = ((X + an : Nat) : Int)) := Lib.hid (by omega)
   clear hs SD ew hX
   go_wp2_with fail
   go_ret
   exact ⟨by rw [FS.out, FIN.out]; rfl, EW.out⟩
end
end Go.Proofs.YtmaofighbpnbiaaGreatDoor
