/- What lies below tapes (kept of earlier texts: NearA, To, StyR, DfP, DfRi, RaL, RaM). -/
import Derived.Test.YtifoijbpbigaaaaGreatDoorDaCD
import Derived.Lib.QuietBelow
set_option linter.unusedVariables false
set_option linter.unusedSimpArgs false
namespace Go.Proofs.YtifoijbpbigaaaaGreatDoor
section
open Go.RowKit
def dist (a b c x y z : Int) : Int := (a - x) * (a - x) + (b - y) * (b - y) + (c - z) * (c - z)
theorem qY (a x : Int) (h0 : 0 <= a) (h1 : a <= 255) (g0 : 0 <= x) (g1 : x <= 255) : 0 <= (a - x) * (a - x) /\ (a - x) * (a - x) <= 65025 := by
 constructor
 ·rcases Int.le_total 0 (a - x) with h | h
  ·exact Int.mul_nonneg h h
  ·exact Int.mul_nonneg_of_nonpos_of_nonpos h h
 ·rcases Int.le_total 0 (a - x) with h | h
  ·have := Int.mul_le_mul (show a - x <= 255 by omega) (show a - x <= 255 by omega) h (by omega)
   omega
  ·have := Int.mul_le_mul (show -(a - x) <= 255 by omega) (show -(a - x) <= 255 by omega) (by omega) (by omega)
   rw [Int.neg_mul_neg] at this
   omega
theorem Ji (a b c x y z : Int) : dist a b c x y z = dist x y z a b c := by
 unfold dist
 have e : ∀ p q : Int, (p - q) * (p - q) = (q - p) * (q - p) := fun p q => by rw [<- Int.neg_mul_neg, Int.neg_sub]
 rw [e a x, e b y, e c z]
set_option maxHeartbeats 4000000 in
theorem tint_far (a b c x y z : Int) (ha : 0 <= a /\ a <= 255) (hb : 0 <= b /\ b <= 255) (hc : 0 <= c /\ c <= 255) (hx : 0 <= x /\ x <= 255) (hy : 0 <= y /\ y <= 255) (hz : 0 <= z /\ z <= 255) :
  Gives 80 #[arr3 a b c, arr3 x y z] (.int .i64 (dist a b c x y z)) := by
 intro w
 obtain ⟨p0, p1⟩ := qY a x ha.1 ha.2 hx.1 hx.2
 obtain ⟨q0, q1⟩ := qY b y hb.1 hb.2 hy.1 hy.2
 obtain ⟨r0, r1⟩ := qY c z hc.1 hc.2 hz.1 hz.2
 have H : Hid (dist a b c x y z = (a - x) * (a - x) + (b - y) * (b - y) + (c - z) * (c - z)) := rfl
 obtain ⟨ha0, ha1⟩ := ha; obtain ⟨hb0, hb1⟩ := hb; obtain ⟨hc0, hc1⟩ := hc
 obtain ⟨hx0, hx1⟩ := hx; obtain ⟨hy0, hy1⟩ := hy; obtain ⟨hz0, hz1⟩ := hz
 have d1 := Xl (a - x) (by omega)
 have d2 := Xl (b - y) (by omega)
 have d3 := Xl (c - z) (by omega)
 go_enter Tryz.func80, Tryz.ntmps80
 go_wp2_with fail
 refine wp_loop_rounds 4 ?_
 rw [rounds_succ]
 go_wp2_with fail
 go_quiet (fail)
 go_wp2_with fail
 rw [rounds_succ]
 go_wp2_with fail
 go_quiet (fail)
 go_wp2_with fail
 rw [rounds_succ]
 go_wp2_with fail
 go_quiet (fail)
 go_wp2_with fail
 rw [rounds_succ]
 go_wp2_with fail
 go_ret
 exact ⟨zC (by rw [H.out]), below_drewN (by go_grown) _⟩
set_option maxHeartbeats 4000000 in
theorem Jj (a b c x y z : Int) (ha : 0 <= a /\ a <= 255) (hb : 0 <= b /\ b <= 255) (hc : 0 <= c /\ c <= 255) (hx : 0 <= x /\ x <= 255) (hy : 0 <= y /\ y <= 255) (hz : 0 <= z /\ z <= 255) :
  Gives 110 #[tri a b c, tri x y z] (.int .i64 (dist a b c x y z)) := by
 intro w
 obtain ⟨p0, p1⟩ := qY a x ha.1 ha.2 hx.1 hx.2
 obtain ⟨q0, q1⟩ := qY b y hb.1 hb.2 hy.1 hy.2
 obtain ⟨r0, r1⟩ := qY c z hc.1 hc.2 hz.1 hz.2
 have H : Hid (dist a b c x y z = (a - x) * (a - x) + (b - y) * (b - y) + (c - z) * (c - z)) := rfl
 obtain ⟨ha0, ha1⟩ := ha; obtain ⟨hb0, hb1⟩ := hb; obtain ⟨hc0, hc1⟩ := hc
 obtain ⟨hx0, hx1⟩ := hx; obtain ⟨hy0, hy1⟩ := hy; obtain ⟨hz0, hz1⟩ := hz
 go_enter Tryz.func110, Tryz.ntmps110
 go_wp2_with fail
 go_ret
 exact ⟨zC (by rw [H.out]), by go_grown⟩
def bst (D : Int -> Int) (lo : Int) : Nat -> Int
 | 0 => lo
 | k + 1 => if D (lo + (k : Int)) < D (bst D lo k) then lo + (k : Int) else bst D lo k
theorem xg (D : Int -> Int) (lo : Int) (k : Nat) : lo <= bst D lo k /\ bst D lo k <= lo + (k : Int) := by
 induction k with
 | zero => simp [bst]
 | succ k ih =>
  unfold bst
  split <;> omega
end
section
open Go.RowKit
def palD (r g b : Int) (n : Int) : Int := dist r g b (pr n) (pg n) (pb n)
theorem jB (n : Int) (h0 : 0 <= n) (h1 : n < 256) : (0 <= pr n /\ pr n <= 255) /\ (0 <= pg n /\ pg n <= 255) /\ (0 <= pb n /\ pb n <= 255) := by
 have h := xf (n + 256)
 have e1 : chR (n + 256) = pr n := by unfold chR; rw [if_neg (by omega), if_pos (by omega), show n + 256 - 256 = n by omega]
 have e2 : chG (n + 256) = pg n := by unfold chG; rw [if_neg (by omega), if_pos (by omega), show n + 256 - 256 = n by omega]
 have e3 : chB (n + 256) = pb n := by unfold chB; rw [if_neg (by omega), if_pos (by omega), show n + 256 - 256 = n by omega]
 rw [e1, e2, e3] at h
 exact h
theorem Zg (r g b n : Int) (hr : 0 <= r /\ r <= 255) (hg : 0 <= g /\ g <= 255) (hb : 0 <= b /\ b <= 255) (h0 : 0 <= n) (h1 : n < 256) : 0 <= palD r g b n /\ palD r g b n <= 195075 := by
 obtain ⟨x, y, z⟩ := jB n h0 h1
 have p := qY r (pr n) hr.1 hr.2 x.1 x.2
 have q := qY g (pg n) hg.1 hg.2 y.1 y.2
 have t := qY b (pb n) hb.1 hb.2 z.1 z.2
 unfold palD dist
 omega
set_option maxHeartbeats 8000000 in
theorem Zh (r g b : Int) (hr : 0 <= r /\ r <= 255) (hg : 0 <= g /\ g <= 255) (hb : 0 <= b /\ b <= 255) (lo : Int) (m : Nat) (l0 : 0 <= lo) (l1 : lo + m <= 256) (hi : Int) (hhi : hi = lo + m) :
  Gives 64 #[arr3 r g b, .int .i64 lo, .int .i64 hi] (.int .i32 (256 + bst (palD r g b) lo m)) := by
 intro w
 have BR := fun k => xg (palD r g b) lo k
 have BRH := Xk BR
 have PB := Xk (fun n h0 h1 => Zg r g b n hr hg hb h0 h1)
 have HI := Xk hhi
 have hi1 : hi <= 256 := by omega
 have lohi : lo <= hi := by omega
 have CP := Xk (fun n h0 h1 => vL n h0 h1)
 have CF := Xk (fun n h0 h1 => tint_far r g b (pr n) (pg n) (pb n) hr hg hb (jB n h0 h1).1 (jB n h0 h1).2.1 (jB n h0 h1).2.2)
 clear BR hhi
 go_enter Tryz.func64, Tryz.ntmps64
 go_wp2_with fail
 go_loopw [7, 8, 9] (fun best least n wr => ∃ (k : Nat) (B L N : Int), best = .int .i64 B /\ least = .int .i64 L /\ n = .int .i64 N /\ lo <= N /\ N <= hi /\ Hid (k <= m /\ N = lo + (k : Int) /\ B = bst (palD r g b) lo k /\ (k = 0 -> L = 9223372036854775807) /\ (k ≠ 0 -> L = palD r g b B)) /\ Below (w.heap.size + 1) (w.alloc (.cells #[.int .u8 r, .int .u8 g, .int .u8 b] 100)) wr) (fun _ _ n _ => (hi - intOf n).toNat)
 case atStart => exact ⟨0, lo, 9223372036854775807, lo, rfl, rfl, rfl, by omega, by omega, Xk ⟨by omega, by simp, rfl, fun _ => rfl, fun h => absurd rfl h⟩, Below.refl _ _⟩
 case round =>
  obtain ⟨k, B, L, N, rfl, rfl, rfl, n0, n1, hk, hbw⟩ := hrel
  by_cases c : N < hi
  ·have hN : 0 <= N /\ N < 256 := ⟨by omega, by omega⟩
   have cP := Xk (CP.out N hN.1 hN.2)
   have cF := Xk (CF.out N hN.1 hN.2)
   have pbd := PB.out N hN.1 hN.2
   have c0 : wr.cell? ⟨w.heap.size, 0, none⟩ = some (.int .u8 r) := by rw [hbw.cell (p := ⟨w.heap.size, 0, none⟩) (by simp)]; simp
   have c1 : wr.cell? ⟨w.heap.size, 1, none⟩ = some (.int .u8 g) := by rw [hbw.cell (p := ⟨w.heap.size, 1, none⟩) (by simp)]; simp
   have c2 : wr.cell? ⟨w.heap.size, 2, none⟩ = some (.int .u8 b) := by rw [hbw.cell (p := ⟨w.heap.size, 2, none⟩) (by simp)]; simp
   have q0 := fun d os => cell_regrown c0 d os
   have q1 := fun d os => cell_regrown c1 d os
   have q2 := fun d os => cell_regrown c2 d os
   clear c0 c1 c2
   obtain ⟨Dn, hD⟩ : ∃ Dn, Dn = palD r g b N := ⟨_, rfl⟩
   have cF : Hid (Gives 80 #[arr3 r g b, arr3 (pr N) (pg N) (pb N)] (.int .i64 Dn)) := by rw [hD]; exact cF
   rw [<- hD] at pbd
   have HD := Xk hD
   obtain ⟨d0, d1⟩ := pbd
   clear hD
   go_wp2_with fail
   refine wp_region_quiet_below (by kernel_rfl) (by kernel_rfl) ?_
   repeat (quiet_step (first | exact (cP.out _).regrown_of | exact (cF.out _).regrown_of))
   refine wpQuiet_nil ?_
   intro _ hw'
   obtain ⟨⟨dq, osq⟩, hw''⟩ := hw'
   subst hw''
   have hb3 := hbw.trans ((below_regrown wr dq osq).mono (by simpa using hbw.size))
   clear q0 q1 q2
   have bs : bst (palD r g b) lo (k + 1) = if palD r g b (lo + (k : Int)) < palD r g b (bst (palD r g b) lo k) then lo + (k : Int) else bst (palD r g b) lo k := rfl
   by_cases lt : Dn < L
   ·have HN : Hid (k + 1 <= m /\ N + 1 = lo + ((k + 1 : Nat) : Int) /\ N = bst (palD r g b) lo (k + 1) /\ (k + 1 = 0 -> Dn = 9223372036854775807) /\ (k + 1 ≠ 0 -> Dn = palD r g b N)) := by
     obtain ⟨h1, h2, h3, h4, h5⟩ := hk.out
     refine Xk ⟨by have := HI.out; omega, by omega, ?_, fun h => by omega, fun _ => HD.out⟩
     rw [bs, <- h2, <- h3]
     by_cases k0 : k = 0
     ·subst k0
      have : B = N := by rw [h3, h2]; simp [bst]
      rw [this]; simp
     ·rw [<- h5 k0, <- HD.out, if_pos lt]
    clear bs hk
    go_wp2_with fail
    go_roundw
    case rel => exact ⟨k + 1, N, Dn, N + 1, rfl, rfl, rfl, by omega, by omega, HN, hb3⟩
    case measure => simp [intOf]; omega
   ·have HN : Hid (k + 1 <= m /\ N + 1 = lo + ((k + 1 : Nat) : Int) /\ B = bst (palD r g b) lo (k + 1) /\ (k + 1 = 0 -> L = 9223372036854775807) /\ (k + 1 ≠ 0 -> L = palD r g b B)) := by
     obtain ⟨h1, h2, h3, h4, h5⟩ := hk.out
     have k0 : k ≠ 0 := fun h => by have := h4 h; omega
     refine Xk ⟨by have := HI.out; omega, by omega, ?_, fun h => by omega, fun _ => h5 k0⟩
     rw [bs, <- h2, <- h3, <- h5 k0, <- HD.out, if_neg lt]
    clear bs hk
    go_wp2_with fail
    go_roundw
    case rel => exact ⟨k + 1, B, L, N + 1, rfl, rfl, rfl, by omega, by omega, HN, hb3⟩
    case measure => simp [intOf]; omega
  ·have e : B = bst (palD r g b) lo m := by
    obtain ⟨h1, h2, h3, _, _⟩ := hk.out
    have : k = m := by have := HI.out; omega
    rw [h3, this]
   have be := BRH.out m
   rw [<- e] at be
   have be1 : B <= 512 := by have := HI.out; omega
   have be0 : 0 <= B := by omega
   have HE := Xk e
   have hb4 : Below w.heap.size w wr := ((Below.refl _ _).alloc Xm _).trans (hbw.mono (by omega))
   clear hk e be
   go_wp2_with fail
   go_ret
   exact ⟨zC (by rw [HE.out]), hb4⟩
end
section
open Go.RowKit
set_option maxHeartbeats 8000000 in
theorem Zi (r g b : Int) (hr : 0 <= r /\ r <= 255) (hg : 0 <= g /\ g <= 255) (hb : 0 <= b /\ b <= 255) (lo : Int) (m : Nat) (l0 : 0 <= lo) (l1 : lo + m <= 256) (m1 : 1 <= m) (hi : Int) (hhi : hi = lo + m - 1) :
  Gives 93 #[tri r g b, .int .i64 lo, .int .i64 hi] (.int .i32 (256 + bst (palD r g b) lo m)) := by
 intro w
 have BR := fun k => xg (palD r g b) lo k
 have BRH := Xk BR
 have PB := Xk (fun n h0 h1 => Zg r g b n hr hg hb h0 h1)
 have HI := Xk hhi
 have hi1 : hi <= 255 := by omega
 have lohi : lo <= hi := by omega
 have CP := Xk (fun n h0 h1 => Za n h0 h1)
 have CF : Hid (∀ n, 0 <= n -> n < 256 -> Gives 110 #[tri (pr n) (pg n) (pb n), tri r g b] (.int .i64 (palD r g b n))) := Xk (fun n h0 h1 => by
  have e : palD r g b n = dist (pr n) (pg n) (pb n) r g b := Ji _ _ _ _ _ _
  rw [e]
  exact Jj (pr n) (pg n) (pb n) r g b (jB n h0 h1).1 (jB n h0 h1).2.1 (jB n h0 h1).2.2 hr hg hb)
 clear BR hhi
 go_enter Tryz.func93, Tryz.ntmps93
 go_wp2_with fail
 go_loopw [7, 8] (fun best n wr => ∃ (k : Nat) (B N : Int), best = .int .i64 B /\ n = .int .i64 N /\ lo <= N /\ N <= hi + 1 /\ lo <= B /\ B <= 255 /\ Hid (k <= m /\ N = lo + (k : Int) /\ B = bst (palD r g b) lo k) /\ Below (w.heap.size + 1) (w.alloc (.cells #[.int .i64 r, .int .i64 g, .int .i64 b] 132)) wr) (fun _ n _ => (hi + 1 - intOf n).toNat)
 case atStart => exact ⟨0, lo, lo, rfl, rfl, by omega, by omega, by omega, by omega, Xk ⟨by omega, by simp, rfl⟩, Below.refl _ _⟩
 case round =>
  obtain ⟨k, B, N, rfl, rfl, n0, n1, b0, b1, hk, hbw⟩ := hrel
  by_cases c : N <= hi
  ·have hN : 0 <= N /\ N < 256 := ⟨by omega, by omega⟩
   have hB : 0 <= B /\ B < 256 := ⟨by omega, by omega⟩
   have cP := Xk (CP.out N hN.1 hN.2)
   have cP2 := Xk (CP.out B hB.1 hB.2)
   have cF := Xk (CF.out N hN.1 hN.2)
   have cF2 := Xk (CF.out B hB.1 hB.2)
   have c0 : wr.cell? ⟨w.heap.size, 0, none⟩ = some (.int .i64 r) := by rw [hbw.cell (p := ⟨w.heap.size, 0, none⟩) (by simp)]; simp
   have c1 : wr.cell? ⟨w.heap.size, 1, none⟩ = some (.int .i64 g) := by rw [hbw.cell (p := ⟨w.heap.size, 1, none⟩) (by simp)]; simp
   have c2 : wr.cell? ⟨w.heap.size, 2, none⟩ = some (.int .i64 b) := by rw [hbw.cell (p := ⟨w.heap.size, 2, none⟩) (by simp)]; simp
   have q0 := fun d os => cell_regrown c0 d os
   have q1 := fun d os => cell_regrown c1 d os
   have q2 := fun d os => cell_regrown c2 d os
   clear c0 c1 c2
   obtain ⟨Dn, hD⟩ : ∃ Dn, Dn = palD r g b N := ⟨_, rfl⟩
   obtain ⟨Db, hE⟩ : ∃ Db, Db = palD r g b B := ⟨_, rfl⟩
   rw [<- hD] at cF
   rw [<- hE] at cF2
   have HD := Xk hD
   have HE := Xk hE
   clear hD hE
   have bs : bst (palD r g b) lo (k + 1) = if palD r g b (lo + (k : Int)) < palD r g b (bst (palD r g b) lo k) then lo + (k : Int) else bst (palD r g b) lo k := rfl
   have HBS := Xk bs
   clear bs
   by_cases lt : Dn < Db
   ·have HN : Hid (k + 1 <= m /\ N + 1 = lo + ((k + 1 : Nat) : Int) /\ N = bst (palD r g b) lo (k + 1)) := by
     obtain ⟨h1, h2, h3⟩ := hk.out
     refine Xk ⟨by have := HI.out; omega, by omega, ?_⟩
     rw [HBS.out, <- h2, <- h3, <- HD.out, <- HE.out, if_pos lt]
    clear hk
    go_wp2_with fail
    refine wp_region_quiet_below (by kernel_rfl) (by kernel_rfl) ?_
    repeat (quiet_step (first | (go_at_call 109; first | (with_reducible exact (cP.out _).regrown_of) | (with_reducible exact (cP2.out _).regrown_of)) | (go_at_call 110; first | (with_reducible exact (cF.out _).regrown_of) | (with_reducible exact (cF2.out _).regrown_of))))
    refine wpQuiet_nil ?_
    intro _ hw'
    obtain ⟨⟨dq, osq⟩, hw''⟩ := hw'
    subst hw''
    have hb3 := hbw.trans ((below_regrown wr dq osq).mono (by simpa using hbw.size))
    clear q0 q1 q2
    go_wp2_with fail
    go_roundw
    case rel => exact ⟨k + 1, N, N + 1, rfl, rfl, by omega, by omega, by omega, by omega, HN, hb3⟩
    case measure => simp [intOf]; omega
   ·have HN : Hid (k + 1 <= m /\ N + 1 = lo + ((k + 1 : Nat) : Int) /\ B = bst (palD r g b) lo (k + 1)) := by
     obtain ⟨h1, h2, h3⟩ := hk.out
     refine Xk ⟨by have := HI.out; omega, by omega, ?_⟩
     rw [HBS.out, <- h2, <- h3, <- HD.out, <- HE.out, if_neg lt]
    clear hk
    go_wp2_with fail
    refine wp_region_quiet_below (by kernel_rfl) (by kernel_rfl) ?_
    repeat (quiet_step (first | (go_at_call 109; first | (with_reducible exact (cP.out _).regrown_of) | (with_reducible exact (cP2.out _).regrown_of)) | (go_at_call 110; first | (with_reducible exact (cF.out _).regrown_of) | (with_reducible exact (cF2.out _).regrown_of))))
    refine wpQuiet_nil ?_
    intro _ hw'
    obtain ⟨⟨dq, osq⟩, hw''⟩ := hw'
    subst hw''
    have hb3 := hbw.trans ((below_regrown wr dq osq).mono (by simpa using hbw.size))
    clear q0 q1 q2
    go_wp2_with fail
    go_roundw
    case rel => exact ⟨k + 1, B, N + 1, rfl, rfl, by omega, by omega, by omega, by omega, HN, hb3⟩
    case measure => simp [intOf]; omega
  ·have e : B = bst (palD r g b) lo m := by
    obtain ⟨h1, h2, h3⟩ := hk.out
    have : k = m := by have := HI.out; omega
    rw [h3, this]
   have HE := Xk e
   have hb4 : Below w.heap.size w wr := ((Below.refl _ _).alloc Xm _).trans (hbw.mono (by omega))
   clear hk e
   go_wp2_with fail
   go_ret
   exact ⟨zC (by rw [HE.out]), hb4⟩
end
section
open Go.RowKit
def qv (c : Int) : Int := if 16777216 <= c /\ c < 33554432 then 256 + bst (palD (chR c) (chG c) (chB c)) 16 240 else cnt c
def zW (c : Int) : Int := if (16777216 <= c /\ c < 33554432) \/ (272 <= c /\ c < 512) then 256 + bst (palD (chR c) (chG c) (chB c)) 0 16 else cnt c
set_option maxHeartbeats 4000000 in
theorem Jk (c : Int) : Gives 44 #[.int .i32 c] (.int .i32 (qv c)) := by
 intro w
 obtain ⟨hr, hg, hb⟩ := xf c
 by_cases h : 16777216 <= c /\ c < 33554432
 ·have hc : cnt c = c := by unfold cnt; rw [if_pos]; unfold zw; rw [decide_eq_true_iff]; omega
  have H : Hid (qv c = 256 + bst (palD (chR c) (chG c) (chB c)) 16 240) := by unfold Hid qv; rw [if_pos h]
  have C := Xk (Zh (chR c) (chG c) (chB c) hr hg hb 16 240 (by omega) (by omega) 256 (by omega))
  obtain ⟨h1, h2⟩ := h
  clear hr hg hb
  go_enter Tryz.func44, Tryz.ntmps44
  go_wp2_with fail
  refine (jw _ _).mono ?_; rintro e w' ⟨rfl, rfl⟩; rw [hc]
  go_wp2_with fail
  refine (v7 _ _).mono ?_; rintro e w1 ⟨rfl, hb1⟩
  obtain ⟨hcl1, hfz1, hz1⟩ := qG hb1
  go_wp2_with fail
  refine (C.out _).mono ?_; rintro e w2 ⟨rfl, hb2⟩
  have hw2 : Below w.heap.size w w2 := by
   refine zk ?_ ?_ hb2
   ·repeat (first | exact hb1 | refine below_drewN ?_ _ | refine Below.alloc ?_ (by go_size) _ | refine Below.setCell ?_ (by go_size) _)
   ·simp; omega
  go_wp2_with fail
  go_ret
  exact ⟨zC (by rw [H.out]), hw2⟩
 ·have hc : cnt c < 16777216 := by
   unfold cnt zw
   split
   ·rename_i q; rw [decide_eq_true_iff] at q; omega
   ·omega
  have H : Hid (qv c = cnt c) := by unfold Hid qv; rw [if_neg h]
  clear h hr hg hb
  go_enter Tryz.func44, Tryz.ntmps44
  go_wp2_with fail
  refine (jw _ _).mono ?_; rintro e w' ⟨rfl, rfl⟩
  go_wp2_with fail
  go_ret
  exact ⟨zC (by rw [H.out]), Below.refl _ _⟩
set_option maxHeartbeats 4000000 in
theorem Jl (c : Int) : Gives 43 #[.int .i32 c] (.int .i32 (zW c)) := by
 intro w
 obtain ⟨hr, hg, hb⟩ := xf c
 by_cases h : (16777216 <= c /\ c < 33554432) \/ (272 <= c /\ c < 512)
 ·have hc : cnt c = c := by unfold cnt; rw [if_pos]; unfold zw; rw [decide_eq_true_iff]; omega
  have H : Hid (zW c = 256 + bst (palD (chR c) (chG c) (chB c)) 0 16) := by unfold Hid zW; rw [if_pos h]
  have C := Xk (Zh (chR c) (chG c) (chB c) hr hg hb 0 16 (by omega) (by omega) 16 (by omega))
  have h1 : 272 <= c := by omega
  clear hr hg hb h
  go_enter Tryz.func43, Tryz.ntmps43
  go_wp2_with fail
  refine (jw _ _).mono ?_; rintro e w' ⟨rfl, rfl⟩; rw [hc]
  go_wp2_with fail
  refine (v7 _ _).mono ?_; rintro e w1 ⟨rfl, hb1⟩
  obtain ⟨hcl1, hfz1, hz1⟩ := qG hb1
  go_wp2_with fail
  refine (C.out _).mono ?_; rintro e w2 ⟨rfl, hb2⟩
  have hw2 : Below w.heap.size w w2 := by
   refine zk ?_ ?_ hb2
   ·repeat (first | exact hb1 | refine below_drewN ?_ _ | refine Below.alloc ?_ (by go_size) _ | refine Below.setCell ?_ (by go_size) _)
   ·simp; omega
  go_wp2_with fail
  go_ret
  exact ⟨zC (by rw [H.out]), hw2⟩
 ·have hc : cnt c < 272 := by
   unfold cnt zw
   split
   ·rename_i q; rw [decide_eq_true_iff] at q; omega
   ·omega
  have H : Hid (zW c = cnt c) := by unfold Hid zW; rw [if_neg h]
  clear h hr hg hb
  go_enter Tryz.func43, Tryz.ntmps43
  go_wp2_with fail
  refine (jw _ _).mono ?_; rintro e w' ⟨rfl, rfl⟩
  go_wp2_with fail
  go_ret
  exact ⟨zC (by rw [H.out]), Below.refl _ _⟩
set_option maxHeartbeats 4000000 in
theorem Jm (c : Int) (hl : -2147483648 <= c) (hh : c <= 2147483647) : Gives 76 #[.int .i32 c] (.int .i32 (qv c)) := by
 intro w
 obtain ⟨hr, hg, hb⟩ := xf c
 by_cases h : 16777216 <= c /\ c < 33554432
 ·have hs : qa c = 3 /\ jz c = c - 16777216 := by rcases jA c with ⟨_, _, _⟩ | ⟨_, _, _, _⟩ | ⟨_, _, x, y⟩ | ⟨_, _, _, _, _⟩ <;> first | exact ⟨x, y⟩ | omega
  have H : Hid (qv c = 256 + bst (palD (chR c) (chG c) (chB c)) 16 240) := by unfold Hid qv; rw [if_pos h]
  have C := Xk (Zi (chR c) (chG c) (chB c) hr hg hb 16 240 (by omega) (by omega) (by omega) 255 (by omega))
  obtain ⟨s1, s2⟩ := hs
  clear hr hg hb h
  go_enter Tryz.func76, Tryz.ntmps76
  go_wp2_with fail
  refine (qr _ hl hh _).mono ?_; rintro e w' ⟨rfl, rfl⟩; rw [s1, s2]
  go_wp2_with fail
  refine (kz _ hl hh _).mono ?_; rintro e w1 ⟨rfl, hb1⟩
  obtain ⟨hcl1, hfz1, hz1⟩ := qG hb1
  go_wp2_with fail
  refine (C.out _).mono ?_; rintro e w2 ⟨rfl, hb2⟩
  have hw2 : Below w.heap.size w w2 := by
   refine zk ?_ ?_ hb2
   ·repeat (first | exact hb1 | refine below_drewN ?_ _ | refine Below.alloc ?_ (by go_size) _ | refine Below.setCell ?_ (by go_size) _)
   ·simp; omega
  go_wp2_with fail
  go_ret
  exact ⟨zC (by rw [H.out]), hw2⟩
 ·have hs : qa c ≠ 3 := by rcases jA c with ⟨_, x, _⟩ | ⟨_, _, x, _⟩ | ⟨_, _, _, _⟩ | ⟨_, _, _, x, _⟩ <;> omega
  have H : Hid (qv c = cnt c) := by unfold Hid qv; rw [if_neg h]
  clear h hr hg hb
  go_enter Tryz.func76, Tryz.ntmps76
  go_wp2_with fail
  refine (qr _ hl hh _).mono ?_; rintro e w' ⟨rfl, rfl⟩
  go_wp2_with fail
  refine (xH _ hl hh _).mono ?_; rintro e w' ⟨rfl, rfl⟩
  go_wp2_with fail
  go_ret
  exact ⟨zC (by rw [H.out]), Below.refl _ _⟩
set_option maxHeartbeats 4000000 in
theorem ref_To16 (c : Int) (hl : -2147483648 <= c) (hh : c <= 2147483647) : Gives 75 #[.int .i32 c] (.int .i32 (zW c)) := by
 intro w
 obtain ⟨hr, hg, hb⟩ := xf c
 have C := Xk (Zi (chR c) (chG c) (chB c) hr hg hb 0 16 (by omega) (by omega) (by omega) 15 (by omega))
 clear hr hg hb
 rcases jA c with ⟨c1, s1, s2⟩ | ⟨c1, c2, s1, s2⟩ | ⟨c1, c2, s1, s2⟩ | ⟨c1, c2, c3, s1, s2⟩
 ·have H : Hid (zW c = cnt c) := by unfold Hid zW; rw [if_neg (by omega)]
  clear c1
  go_enter Tryz.func75, Tryz.ntmps75
  go_wp2_with fail
  refine (qr _ hl hh _).mono ?_; rintro e w' ⟨rfl, rfl⟩; rw [s1, s2]
  go_wp2_with fail
  refine (xH _ hl hh _).mono ?_; rintro e w' ⟨rfl, rfl⟩
  go_wp2_with fail
  go_ret
  exact ⟨zC (by rw [H.out]), Below.refl _ _⟩
 ·by_cases lt : c < 272
  ·have H : Hid (zW c = cnt c) := by unfold Hid zW; rw [if_neg (by omega)]
   go_enter Tryz.func75, Tryz.ntmps75
   go_wp2_with fail
   refine (qr _ hl hh _).mono ?_; rintro e w' ⟨rfl, rfl⟩; rw [s1, s2]
   go_wp2_with fail
   refine (xH _ hl hh _).mono ?_; rintro e w' ⟨rfl, rfl⟩
   go_wp2_with fail
   go_ret
   exact ⟨zC (by rw [H.out]), Below.refl _ _⟩
  ·have H : Hid (zW c = 256 + bst (palD (chR c) (chG c) (chB c)) 0 16) := by unfold Hid zW; rw [if_pos (by omega)]
   go_enter Tryz.func75, Tryz.ntmps75
   go_wp2_with fail
   refine (qr _ hl hh _).mono ?_; rintro e w' ⟨rfl, rfl⟩; rw [s1, s2]
   go_wp2_with fail
   refine (kz _ hl hh _).mono ?_; rintro e w1 ⟨rfl, hb1⟩
   obtain ⟨hcl1, hfz1, hz1⟩ := qG hb1
   go_wp2_with fail
   refine (C.out _).mono ?_; rintro e w2 ⟨rfl, hb2⟩
   have hw2 : Below w.heap.size w w2 := by
    refine zk ?_ ?_ hb2
    ·repeat (first | exact hb1 | refine below_drewN ?_ _ | refine Below.alloc ?_ (by go_size) _ | refine Below.setCell ?_ (by go_size) _)
    ·simp; omega
   go_wp2_with fail
   go_ret
   exact ⟨zC (by rw [H.out]), hw2⟩
 ·have H : Hid (zW c = 256 + bst (palD (chR c) (chG c) (chB c)) 0 16) := by unfold Hid zW; rw [if_pos (by omega)]
  go_enter Tryz.func75, Tryz.ntmps75
  go_wp2_with fail
  refine (qr _ hl hh _).mono ?_; rintro e w' ⟨rfl, rfl⟩; rw [s1, s2]
  go_wp2_with fail
  refine (kz _ hl hh _).mono ?_; rintro e w1 ⟨rfl, hb1⟩
  obtain ⟨hcl1, hfz1, hz1⟩ := qG hb1
  go_wp2_with fail
  refine (C.out _).mono ?_; rintro e w2 ⟨rfl, hb2⟩
  have hw2 : Below w.heap.size w w2 := by
   refine zk ?_ ?_ hb2
   ·repeat (first | exact hb1 | refine below_drewN ?_ _ | refine Below.alloc ?_ (by go_size) _ | refine Below.setCell ?_ (by go_size) _)
   ·simp; omega
  go_wp2_with fail
  go_ret
  exact ⟨zC (by rw [H.out]), hw2⟩
 ·have H : Hid (zW c = cnt c) := by unfold Hid zW; rw [if_neg (by omega)]
  clear c1 c2 c3
  go_enter Tryz.func75, Tryz.ntmps75
  go_wp2_with fail
  refine (qr _ hl hh _).mono ?_; rintro e w' ⟨rfl, rfl⟩; rw [s1, s2]
  go_wp2_with fail
  refine (xH _ hl hh _).mono ?_; rintro e w' ⟨rfl, rfl⟩
  go_wp2_with fail
  go_ret
  exact ⟨zC (by rw [H.out]), Below.refl _ _⟩
end
section
open Go.RowKit
def zt (c d : Int) : Int := if c = 0 \/ d <= 0 then 0 else if d = 1 then zW c else if d = 2 then qv c else c
def zK (s : Sty) (d : Int) : Sty := ⟨zt (plC s.fg) d, zt (plC s.bg) d, s.at_⟩
theorem Zj (D : Int -> Int) (lo : Int) (k m : Nat) (h : m = k + 1) : bst D lo m <= lo + (k : Int) := by
 subst h
 unfold bst
 split
 ·exact Int.le_refl _
 ·exact (xg D lo k).2
theorem Zk (c : Int) (h : qu c) : cnt c = c := by
 unfold cnt zw
 rcases h with rfl | h | h
 ·rfl
 ·rw [if_pos (by rw [decide_eq_true_iff]; omega)]
 ·rw [if_pos (by rw [decide_eq_true_iff]; omega)]
theorem Zl (c d : Int) (h : qu c) : qu (zt c d) := by
 unfold zt
 split
 ·exact Or.inl rfl
 ·split
  ·unfold zW
   split
   ·have h1 := Zj (palD (chR c) (chG c) (chB c)) 0 15 16 rfl
    have h2 := (xg (palD (chR c) (chG c) (chB c)) 0 16).1
    exact Or.inr (Or.inl ⟨by omega, by omega⟩)
   ·rw [Zk c h]; exact h
  ·split
   ·unfold qv
    split
    ·have h1 := Zj (palD (chR c) (chG c) (chB c)) 16 239 240 rfl
     have h2 := (xg (palD (chR c) (chG c) (chB c)) 16 240).1
     exact Or.inr (Or.inl ⟨by omega, by omega⟩)
    ·rw [Zk c h]; exact h
   ·exact h
end
section
open Go.RowKit
def redC (d : Int) (c : Cel) : Cel := ⟨c.text, c.wide, zK c.st d⟩
def redL (l : List Cel) (d : Int) : List Cel := l.map (redC d)
def redS (s : Scr) (d : Int) : Scr := ⟨s.w, s.h, redL s.cells d, s.x, s.y, s.shown⟩
theorem jo {a : Cel} (h : zH a = true) : a.wide = 1 /\ oneB a.text = some 1 /\ zq a.st = a.st := by
 unfold zH at h
 simp only [Bool.and_eq_true, decide_eq_true_eq] at h
 exact ⟨h.1.1, h.1.2, h.2⟩
theorem qC {a b : Cel} (h : zJ a b = true) : a.wide = 2 /\ oneB a.text = some 2 /\ b.wide = 0 /\ b.text = ⟨#[]⟩ /\ a.st = b.st /\ zq a.st = a.st := by
 unfold zJ at h
 simp only [Bool.and_eq_true, decide_eq_true_eq] at h
 obtain ⟨⟨⟨⟨⟨h1, h2⟩, h3⟩, h4⟩, h5⟩, h6⟩ := h
 exact ⟨h1, h2, h3, h4, h5, h6⟩
theorem sing_mk {a : Cel} (h1 : a.wide = 1) (h2 : oneB a.text = some 1) (h3 : zq a.st = a.st) : zH a = true := by
 unfold zH
 rw [h1, h2, h3]
 simp
theorem pair_mk {a b : Cel} (h1 : a.wide = 2) (h2 : oneB a.text = some 2) (h3 : b.wide = 0) (h4 : b.text = ⟨#[]⟩) (h5 : a.st = b.st) (h6 : zq a.st = a.st) : zJ a b = true := by
 unfold zJ
 rw [h1, h2, h3, h4, <- h5, h6]
 simp
theorem Jn {a b : Cel} (h : a.wide ≠ 2) : zJ a b = false := by
 cases e : zJ a b with
 | false => rfl
 | true => exact absurd (qC e).1 h
theorem kF (a b : Cel) (r : List Cel) : rowR (a :: b :: r) = if zJ a b = true then rowR r else if zH a = true then rowR (b :: r) else false := by
 conv => lhs; unfold rowR
theorem Zm {a : Cel} {l : List Cel} (h : rowR (a :: l) = true) : (∃ b r, l = b :: r /\ zJ a b = true /\ rowR r = true) \/ (zH a = true /\ rowR l = true) := by
 cases l with
 | nil => exact Or.inr ⟨h, rfl⟩
 | cons b r =>
  rw [kF] at h
  by_cases p : zJ a b = true
  ·rw [if_pos p] at h; exact Or.inl ⟨b, r, rfl, p, h⟩
  ·rw [if_neg p] at h
   by_cases s : zH a = true
   ·rw [if_pos s] at h; exact Or.inr ⟨s, h⟩
   ·rw [if_neg s] at h; cases h
theorem Zn {a : Cel} {l : List Cel} (h : zH a = true) (hl : rowR l = true) : rowR (a :: l) = true := by
 cases l with
 | nil => exact h
 | cons b r =>
  rw [kF, if_neg (by rw [Jn (by rw [(jo h).1]; decide)]; decide), if_pos h]
  exact hl
theorem Zo {a b : Cel} {l : List Cel} (h : zJ a b = true) (hl : rowR l = true) : rowR (a :: b :: l) = true := by
 rw [kF, if_pos h]
 exact hl
theorem Zp {a : Cel} {l : List Cel} (h : rowR (a :: l) = true) : (a.wide = 2 /\ ∃ b r, l = b :: r /\ b.wide = 0 /\ rowR r = true) \/ (a.wide = 1 /\ rowR l = true) := by
 rcases Zm h with ⟨b, r, e, p, q⟩ | ⟨s, q⟩
 ·exact Or.inl ⟨(qC p).1, b, r, e, (qC p).2.2.1, q⟩
 ·exact Or.inr ⟨(jo s).1, q⟩
theorem jQ {P : List Cel -> Prop} (h0 : P []) (h1 : ∀ a l, zH a = true -> rowR l = true -> P l -> P (a :: l)) (h2 : ∀ a b l, zJ a b = true -> rowR l = true -> P l -> P (a :: b :: l)) : ∀ n l, l.length <= n -> rowR l = true -> P l := by
 intro n
 induction n with
 | zero =>
  intro l hl _
  have e : l = [] := List.length_eq_zero_iff.1 (by omega)
  subst e
  exact h0
 | succ n ih =>
  intro l hl h
  cases l with
  | nil => exact h0
  | cons a l =>
   rcases Zm h with ⟨b, r, e, p, q⟩ | ⟨s, q⟩
   ·subst e
    exact h2 a b r p q (ih r (by simp at hl; omega) q)
   ·exact h1 a l s q (ih l (by simp at hl; omega) q)
theorem row_app (a b : List Cel) (ha : rowR a = true) (hb : rowR b = true) : rowR (a ++ b) = true :=
 jQ (P := fun l => rowR (l ++ b) = true) hb (fun a l s _ h => Zn s h) (fun a c l p _ h => Zo p h) a.length a Xm ha
theorem Zq (s : Sty) (d : Int) : zq (zK s d) = zK s d := by
 unfold zq zK
 simp only
 rw [vQ _ (Zl _ d (jh _)), vQ _ (Zl _ d (jh _))]
theorem row_red (l : List Cel) (d : Int) (h : rowR l = true) : rowR (redL l d) = true :=
 jQ (P := fun l => rowR (redL l d) = true) rfl
  (fun a l s _ q => Zn (sing_mk (a := redC d a) (jo s).1 (jo s).2.1 (Zq _ _)) q)
  (fun a b l p _ q => Zo (pair_mk (a := redC d a) (b := redC d b) (qC p).1 (qC p).2.1 (qC p).2.2.1 (qC p).2.2.2.1 (by show zK a.st d = zK b.st d; rw [(qC p).2.2.2.2.1]) (Zq _ _)) q)
  l.length l Xm h
theorem Jo (L : List Cel) (W : Nat) : ∀ n, (∀ y, y < n -> rowR ((L.drop (y * W)).take W) = true) -> rowR (L.take (n * W)) = true := by
 intro n
 induction n with
 | zero => intro _; simp [rowR]
 | succ n ih =>
  intro h
  rw [Nat.succ_mul, List.take_add]
  exact row_app _ _ (ih fun y hy => h y (by omega)) (h n (by omega))
theorem zQ {s : Scr} (h : zh s = true) : qo s.w s.h = true /\ (s.cells.length : Int) = s.w * s.h /\ (∀ y, y < s.h.toNat -> rowR (zP s y) = true) /\ qK s = true := by
 unfold zh at h
 simp only [Bool.and_eq_true, decide_eq_true_eq, List.all_eq_true, List.mem_range] at h
 exact ⟨h.1.1.1, h.1.1.2, h.1.2, h.2⟩
theorem Zr {s : Scr} (h1 : qo s.w s.h = true) (h2 : (s.cells.length : Int) = s.w * s.h) (h3 : ∀ y, y < s.h.toNat -> rowR (zP s y) = true) (h4 : qK s = true) : zh s = true := by
 unfold zh
 simp only [Bool.and_eq_true, decide_eq_true_eq, List.all_eq_true, List.mem_range]
 exact ⟨⟨⟨h1, h2⟩, h3⟩, h4⟩
theorem qS {w h : Int} (hs : qo w h = true) : 0 <= w /\ w <= 4096 /\ 0 <= h /\ h <= 4096 /\ w * h <= 1048576 := by
 unfold qo at hs
 simp only [Bool.and_eq_true, decide_eq_true_eq] at hs
 omega
theorem jR {s : Scr} (h : zh s = true) : rowR s.cells = true := by
 obtain ⟨h1, h2, h3, _⟩ := zQ h
 obtain ⟨a, _, b, _, _⟩ := qS h1
 have e := Jo s.cells s.w.toNat s.h.toNat h3
 have l : s.cells.length = s.h.toNat * s.w.toNat := by
  have : ((s.h.toNat * s.w.toNat : Nat) : Int) = s.w * s.h := by
   rw [Int.natCast_mul, Int.toNat_of_nonneg a, Int.toNat_of_nonneg b, Int.mul_comm]
  omega
 rwa [<- l, List.take_length] at e
theorem Jp {s : Scr} (d : Int) (h : zh s = true) : zh (redS s d) = true := by
 obtain ⟨h1, h2, h3, h4⟩ := zQ h
 refine Zr h1 (by show ((redL s.cells d).length : Int) = _; unfold redL; rw [List.length_map]; exact h2) (fun y hy => ?_) h4
 have e : zP (redS s d) y = redL (zP s y) d := by
  show ((redL s.cells d).drop _).take _ = _
  unfold redL zP
  rw [<- List.map_drop, <- List.map_take]
  rfl
 rw [e]
 exact row_red _ d (h3 y hy)
def zd : Nat -> List Cel -> List Cel -> List (Nat × Nat)
 | i, x :: x' :: xs, y :: y' :: ys => if y.wide = 2 then (if x = y /\ x' = y' then [] else [(i, 2)]) ++ zd (i + 2) xs ys else (if x = y then [] else [(i, 1)]) ++ zd (i + 1) (x' :: xs) (y' :: ys)
 | i, [x], [y] => if x = y then [] else [(i, 1)]
 | _, _, _ => []
theorem jS (i : Nat) (l : List Cel) : zd i l [] = [] := by
 cases l with
 | nil => rfl
 | cons a l => cases l <;> rfl
theorem jT (i : Nat) (x x' y y' : Cel) (xs ys : List Cel) (h : y.wide = 2) : zd i (x :: x' :: xs) (y :: y' :: ys) = (if x = y /\ x' = y' then [] else [(i, 2)]) ++ zd (i + 2) xs ys := by
 conv => lhs; unfold zd
 rw [if_pos h]
theorem jU (i : Nat) (x y : Cel) (xs ys : List Cel) (h : y.wide ≠ 2) (hl : xs.length = ys.length) : zd i (x :: xs) (y :: ys) = (if x = y then [] else [(i, 1)]) ++ zd (i + 1) xs ys := by
 cases xs with
 | nil =>
  cases ys with
  | nil => simp [zd]
  | cons _ _ => cases hl
 | cons a xs =>
  cases ys with
  | nil => cases hl
  | cons b ys =>
   conv => lhs; unfold zd
   rw [if_neg h]
theorem diffU_none (l : List Cel) (h : rowR l = true) : ∀ i k, k.length = l.length -> zd i k l = [] -> k = l :=
 jQ (P := fun l => ∀ i k, k.length = l.length -> zd i k l = [] -> k = l) (fun i k e _ => List.length_eq_zero_iff.1 e)
  (fun a l s _ q i k e z => by
   cases k with
   | nil => cases e
   | cons b k =>
    simp only [List.length_cons, Nat.add_right_cancel_iff] at e
    rw [jU i b a k l (by rw [(jo s).1]; decide) e] at z
    have z2 := List.append_eq_nil_iff.1 z
    by_cases c : b = a
    ·rw [c, q _ k e z2.2]
    ·rw [if_neg c] at z2; cases z2.1)
  (fun a b l p _ q i k e z => by
   cases k with
   | nil => cases e
   | cons c k =>
    cases k with
    | nil => cases e
    | cons d k =>
     simp only [List.length_cons, Nat.add_right_cancel_iff] at e
     rw [jT i c d a b k l (qC p).1] at z
     have z2 := List.append_eq_nil_iff.1 z
     by_cases g : c = a /\ d = b
     ·rw [g.1, g.2, q _ k e z2.2]
     ·rw [if_neg g] at z2; cases z2.1)
  l.length l Xm h
def chgL (l : List (Nat × Nat)) : List Int := l.flatMap fun p => (List.range p.2).map fun k => ((p.1 + k : Nat) : Int)
theorem jp (a b : List (Nat × Nat)) : chgL (a ++ b) = chgL a ++ chgL b := List.flatMap_append
theorem Zs (i : Nat) : chgL [(i, 1)] = [(i : Int)] := by simp [chgL, List.range_succ]
theorem Zt (i : Nat) : chgL [(i, 2)] = [(i : Int), ((i + 1 : Nat) : Int)] := by simp [chgL, List.range_succ]
theorem Jq (l : List Cel) (h : rowR l = true) : ∀ i k, k.length = l.length -> (∀ x ∈ chgL (zd i k l), (i : Int) <= x /\ x < (i : Int) + l.length) /\ (chgL (zd i k l)).Pairwise (· < ·) :=
 jQ (P := fun l => ∀ i k, k.length = l.length -> (∀ x ∈ chgL (zd i k l), (i : Int) <= x /\ x < (i : Int) + l.length) /\ (chgL (zd i k l)).Pairwise (· < ·))
  (fun i k _ => by rw [jS]; exact ⟨(fun x hx => by cases hx), List.Pairwise.nil⟩)
  (fun a l s _ q i k e => by
   cases k with
   | nil => cases e
   | cons b k =>
    simp only [List.length_cons, Nat.add_right_cancel_iff] at e
    rw [jU i b a k l (by rw [(jo s).1]; decide) e]
    obtain ⟨q1, q2⟩ := q (i + 1) k e
    by_cases c : b = a
    ·rw [if_pos c]
     refine ⟨fun x hx => ?_, q2⟩
     have := q1 x hx
     simp only [List.length_cons]
     omega
    ·rw [if_neg c, jp, Zs]
     refine ⟨fun x hx => ?_, ?_⟩
     ·simp only [List.length_cons]
      rcases List.mem_cons.1 hx with rfl | hx
      ·omega
      ·have := q1 x hx
       omega
     ·exact List.pairwise_cons.2 ⟨fun x hx => by have := q1 x hx; omega, q2⟩)
  (fun a b l p _ q i k e => by
   cases k with
   | nil => cases e
   | cons c k =>
    cases k with
    | nil => cases e
    | cons d k =>
     simp only [List.length_cons, Nat.add_right_cancel_iff] at e
     rw [jT i c d a b k l (qC p).1]
     obtain ⟨q1, q2⟩ := q (i + 2) k e
     by_cases g : c = a /\ d = b
     ·rw [if_pos g]
      refine ⟨fun x hx => ?_, q2⟩
      have := q1 x hx
      simp only [List.length_cons]
      omega
     ·rw [if_neg g, jp, Zt]
      refine ⟨fun x hx => ?_, ?_⟩
      ·simp only [List.length_cons]
       rcases List.mem_cons.1 hx with rfl | hx
       ·omega
       ·rcases List.mem_cons.1 hx with rfl | hx
        ·omega
        ·have := q1 x hx
         omega
      ·refine List.pairwise_cons.2 ⟨fun x hx => ?_, List.pairwise_cons.2 ⟨fun x hx => by have := q1 x hx; omega, q2⟩⟩
       rcases List.mem_cons.1 hx with rfl | hx
       ·omega
       ·have := q1 x hx; omega)
  l.length l Xm h
end
section
open Go.RowKit Go.Sort
theorem xK (s : ByteArray) : s.toList = [] ↔ s = ⟨#[]⟩ := by
 rw [ByteArray.toList_eq]
 constructor
 ·intro h
  apply ByteArray.ext
  rw [<- Array.toList_inj, h]
 ·intro h; rw [h]
theorem Zu {α : Sort _} (b : Cel) (fg bg : Int) (at_ : B8) (x y : α) : (if b.text.toList = [] then if b.wide = 0 then if b.st.fg = fg then if b.st.bg = bg then if bI b.st.at_ = bI at_ then x else y else y else y else y else y) = if b = (⟨⟨#[]⟩, 0, ⟨fg, bg, at_⟩⟩ : Cel) then x else y := by
 obtain ⟨t, w, ⟨f, g, a⟩⟩ := b
 by_cases c : (⟨t, w, ⟨f, g, a⟩⟩ : Cel) = ⟨⟨#[]⟩, 0, ⟨fg, bg, at_⟩⟩
 ·rw [if_pos c]
  injection c with c1 c2 c3
  injection c3 with c3 c4 c5
  subst c1 c2 c3 c4 c5
  rw [if_pos ((xK _).2 rfl), if_pos rfl, if_pos rfl, if_pos rfl, if_pos rfl]
 ·rw [if_neg c]
  by_cases c1 : t.toList = []
  ·rw [if_pos c1]
   by_cases c2 : w = 0
   ·rw [if_pos c2]
    by_cases c3 : f = fg
    ·rw [if_pos c3]
     by_cases c4 : g = bg
     ·rw [if_pos c4]
      by_cases c5 : bI a = bI at_
      ·exfalso; apply c
       rw [(xK _).1 c1, c2, c3, c4, xc c5]
      ·rw [if_neg c5]
     ·rw [if_neg c4]
    ·rw [if_neg c3]
   ·rw [if_neg c2]
  ·rw [if_neg c1]
set_option maxHeartbeats 16000000 in
set_option maxRecDepth 100000 in
theorem d_unit (A : Option Addr) (c : Nat) (a : Cel) (r : List Cel) (n : Nat) (hn : n = (a :: r).length) (hl : n <= 1000000000000) (hz : a.text.size <= 1000000000000) (hw0 : -128 <= a.wide) (hw1 : a.wide <= 127) (w : World) (S : Sees w w.heap.size A (zc (a :: r))) :
  Calls Tryz.prog 77 #[.slice A n c] w fun e w' => e = .returned (.int .i64 (zM (a :: r) : Int)) /\ Below w.heap.size w w' := by
 obtain ⟨ad, rfl, hab, c0, c1, c2, c3, c4⟩ := kE S
 have UC : Hid (zM (a :: r) = xd a r.head? (oneB a.text)) := Xk rfl
 have ON := Xk (d_One a.text hz)
 have OW : Hid (∀ u, oneB a.text = some u -> u = 0 \/ u = 1 \/ u = 2) := Xk (fun u h => kx _ _ h)
 have OV := Xk (fun W => js (over0 a.st W))
 have U1 : Hid (∀ u, oneB a.text = some u -> zM (a :: r) = if u < 1 \/ u ≠ a.wide \/ zq a.st ≠ a.st then 0 else if u = 2 /\ r.head? ≠ some ⟨⟨#[]⟩, 0, a.st⟩ then 0 else u.toNat) := Xk (fun u h => by rw [jN, h, xe])
 have U0 : Hid (oneB a.text = none -> zM (a :: r) = 0) := Xk (fun h => by rw [jN, h]; rfl)
 have SE := Xk S
 have hp : 0 < n := by rw [hn]; simp
 have HN := Xk hn
 obtain ⟨t, wd, st⟩ := a
 obtain ⟨fg, bg, at_⟩ := st
 simp only at c0 c1 c2 c3 c4 ON OW OV U1 U0 hz hw0 hw1
 generalize zM (⟨t, wd, ⟨fg, bg, at_⟩⟩ :: r) = U at *
 generalize oneB t = o at *
 clear S UC hn
 go_enter Tryz.func77, Tryz.ntmps77
 go_wp2_with fail
 refine (ON.out _).mono ?_; rintro e w1 ⟨rfl, hb1⟩
 have K3 : C5 w1 w.heap.size (.string t) (.int .i8 wd) (.int .i32 fg) (.int .i32 bg) (.int .u8 (bI at_)) := C5.keep (by constructor <;> simp [go_sem]) hb1 (by simp)
 have HB1 := Xk (show Below w.heap.size w w1 from zk (by go_grown) (by simp) hb1)
 clear hb1 c0 c1 c2 c3 c4
 cases ho : o with
 | none =>
  have R : Hid (U = 0) := Xk (U0.out ho)
  clear ho
  simp only [oneV]
  have K3 := K3.keep (w' := w1.alloc (.cells #[.string ⟨#[]⟩, .int .i64 0] 109)) ((Below.refl _ _).alloc Xm _) K3.lt
  have K4 : C2 (w1.alloc (.cells #[.string ⟨#[]⟩, .int .i64 0] 109)) w1.heap.size (.string ⟨#[]⟩) (.int .i64 0) := by constructor <;> simp [go_sem]
  have HX := Xk (HB1.out.alloc HB1.out.size (.cells #[.string ⟨#[]⟩, .int .i64 0] 109))
  go_upto_region 3 with fail
  have g30 := fun d os => ((K3).regrown d os).c0
  have g31 := fun d os => ((K3).regrown d os).c1
  have g32 := fun d os => ((K3).regrown d os).c2
  have g33 := fun d os => ((K3).regrown d os).c3
  have g34 := fun d os => ((K3).regrown d os).c4
  have g40 := fun d os => ((K4).regrown d os).c0
  have g41 := fun d os => ((K4).regrown d os).c1
  refine zo 22 [] [] (by kernel_rfl) (by kernel_rfl) (by kernel_rfl) (by intro t ht; cases ht) ?_
  simp only [Xn, Xo, Xp, Xq]
  repeat (refine zf (by rfl) (fun K hK => ?_); go_simp; first | (refine hK _ ?_; clear hK K) | (apply Exists.intro; refine ⟨fun _ => ?_, hK _ ?_⟩; (fail); clear hK K))
  refine zn ?_
  intro W5 vs5 hl hv
  have hb5 := zj.1 hl
  have HY := Xk (HX.out.trans (hb5.mono HX.out.size))
  clear g30 g31 g32 g33 g34 g40 g41 hl hv hb5
  simp only [ze]
  go_wp2_with fail
  go_ret
  exact ⟨by rw [R.out]; rfl, HY.out⟩
 | some u =>
  have R := Xk (U1.out u ho)
  have uo := OW.out u ho
  clear ho U0 U1
  simp only [oneV]
  have K3 := K3.keep (w' := w1.alloc (.cells #[.string t, .int .i64 u] 109)) ((Below.refl _ _).alloc Xm _) K3.lt
  have K4 : C2 (w1.alloc (.cells #[.string t, .int .i64 u] 109)) w1.heap.size (.string t) (.int .i64 u) := by constructor <;> simp [go_sem]
  have HX := Xk (HB1.out.alloc HB1.out.size (.cells #[.string t, .int .i64 u] 109))
  go_upto_region 3 with fail
  have g30 := fun d os => ((K3).regrown d os).c0
  have g31 := fun d os => ((K3).regrown d os).c1
  have g32 := fun d os => ((K3).regrown d os).c2
  have g33 := fun d os => ((K3).regrown d os).c3
  have g34 := fun d os => ((K3).regrown d os).c4
  have g40 := fun d os => ((K4).regrown d os).c0
  have g41 := fun d os => ((K4).regrown d os).c1
  have wr : IntKind.i64.wrap wd = wd := by rw [IntKind.wrap_i64]; omega
  by_cases u1 : u < 1
  ·have R0 : Hid (U = 0) := Xk (by rw [R.out, if_pos (Or.inl u1)])
   refine zo 22 [] [] (by kernel_rfl) (by kernel_rfl) (by kernel_rfl) (by intro t ht; cases ht) ?_
   simp only [Xn, Xo, Xp, Xq]
   repeat (refine zf (by rfl) (fun K hK => ?_); go_simp; first | (refine hK _ ?_; clear hK K) | (apply Exists.intro; refine ⟨fun _ => ?_, hK _ ?_⟩; (fail); clear hK K))
   refine zn ?_
   intro W5 vs5 hl hv
   have hb5 := zj.1 hl
   have HY := Xk (HX.out.trans (hb5.mono HX.out.size))
   clear g30 g31 g32 g33 g34 g40 g41 hl hv hb5
   simp only [ze]
   go_wp2_with fail
   go_ret
   exact ⟨by rw [R0.out]; rfl, HY.out⟩
  by_cases uw : u = wd
  ·subst uw
   simp only [zq] at OV R
   by_cases e1 : plC fg = fg
   ·by_cases e2 : plC bg = bg
    ·have R : Hid (U = if u = 2 /\ r.head? ≠ some ⟨⟨#[]⟩, 0, ⟨fg, bg, at_⟩⟩ then 0 else u.toNat) := Xk (by
      rw [R.out]
      refine if_neg ?_
      rintro (h | h | h)
      ·exact u1 h
      ·exact h rfl
      ·exact h (by rw [e1, e2]))
     rw [e1, e2] at OV
     refine zo 22 [] [] (by kernel_rfl) (by kernel_rfl) (by kernel_rfl) (by intro t ht; cases ht) ?_
     simp only [Xn, Xo, Xp, Xq]
     repeat (refine zf (by rfl) (fun K hK => ?_); go_simp; first | (refine hK _ ?_; clear hK K) | (apply Exists.intro; refine ⟨fun _ => ?_, hK _ ?_⟩; (with_reducible exact OV.out _); clear hK K))
     refine zn ?_
     intro W5 vs5 hl hv
     have hb5 := zj.1 hl
     have HY := Xk (HX.out.trans (hb5.mono HX.out.size))
     have K3 := K3.keep hb5 K3.lt
     have K4 := K4.keep hb5 K4.lt
     clear g30 g31 g32 g33 g34 g40 g41 hl hv hb5
     simp only [ze]
     go_wp2_with fail
     have g30 := fun d os => ((K3).regrown d os).c0
     have g31 := fun d os => ((K3).regrown d os).c1
     have g32 := fun d os => ((K3).regrown d os).c2
     have g33 := fun d os => ((K3).regrown d os).c3
     have g34 := fun d os => ((K3).regrown d os).c4
     have g40 := fun d os => ((K4).regrown d os).c0
     have g41 := fun d os => ((K4).regrown d os).c1
     by_cases u2 : u = 2
     ·subst u2
      rcases r with _ | ⟨b, r'⟩
      ·have R0 : Hid (U = 0) := Xk (by rw [R.out]; exact if_pos ⟨rfl, by simp⟩)
       have n1 : n = 1 := by rw [HN.out]; rfl
       subst n1
       refine zo 16 [] [] (by kernel_rfl) (by kernel_rfl) (by kernel_rfl) (by intro t ht; cases ht) ?_
       simp only [Xn, Xo, Xp, Xq]
       repeat (refine zf (by rfl) (fun K hK => ?_); go_simp; first | (refine hK _ ?_; clear hK K) | (apply Exists.intro; refine ⟨fun _ => ?_, hK _ ?_⟩; (fail); clear hK K))
       refine zn ?_
       intro W6 vs6 hl hv
       have hb6 := zj.1 hl
       have HZ := Xk (HY.out.trans (hb6.mono HY.out.size))
       clear hl hv hb6
       simp only [ze]
       go_wp2_with fail
       go_ret
       exact ⟨by rw [R0.out]; rfl, HZ.out⟩
      ·have n2 : 2 <= n := by rw [HN.out]; simp
       have n3 : ¬ (n : Int) < 2 := by omega
       have n4 : (1 : Int) < (n : Int) := by omega
       have BC := fun d os => cel_two SE.out (HY.out.trans ((below_regrown W5 d os).mono HY.out.size)) hab
       have b0 := fun d os => (BC d os).1
       have b1 := fun d os => (BC d os).2.1
       have b2 := fun d os => (BC d os).2.2.1
       have b3 := fun d os => (BC d os).2.2.2.1
       have b4 := fun d os => (BC d os).2.2.2.2
       clear BC
       refine zo 16 [] [] (by kernel_rfl) (by kernel_rfl) (by kernel_rfl) (by intro t ht; cases ht) ?_
       simp only [Xn, Xo, Xp, Xq]
       repeat (refine zf (by rfl) (fun K hK => ?_); go_simp; first | (refine hK _ ?_; clear hK K) | (apply Exists.intro; refine ⟨fun _ => ?_, hK _ ?_⟩; (fail); clear hK K))
       refine zf (by rfl) (fun K hK => ?_); go_simp
       by_cases hbb : b = (⟨⟨#[]⟩, 0, ⟨fg, bg, at_⟩⟩ : Cel)
       ·have R0 : Hid (U = 2) := Xk (by rw [R.out]; exact if_neg (fun h => h.2 (by rw [hbb]; rfl)))
        refine ⟨.bool false, fun p => ?_, hK _ ?_⟩
        ·rw [Zu, if_pos hbb]; exact ⟨rfl, rfl⟩
        clear hK K hbb
        repeat (refine zf (by rfl) (fun K hK => ?_); go_simp; first | (refine hK _ ?_; clear hK K) | (apply Exists.intro; refine ⟨fun _ => ?_, hK _ ?_⟩; (fail); clear hK K))
        refine zn ?_
        intro W6 vs6 hl hv
        have hb6 := zj.1 hl
        have HZ := Xk (HY.out.trans (hb6.mono HY.out.size))
        obtain ⟨z0, z1⟩ := K4.keep hb6 K4.lt
        clear hl hv hb6
        simp only [ze]
        go_wp2_with fail
        go_ret
        exact ⟨zC (by rw [R0.out]; rfl), HZ.out⟩
       ·have R0 : Hid (U = 0) := Xk (by rw [R.out]; exact if_pos ⟨rfl, fun h => hbb (Option.some.inj h)⟩)
        refine ⟨.bool true, fun p => ?_, hK _ ?_⟩
        ·rw [Zu, if_neg hbb]; exact ⟨rfl, rfl⟩
        clear hK K hbb
        repeat (refine zf (by rfl) (fun K hK => ?_); go_simp; first | (refine hK _ ?_; clear hK K) | (apply Exists.intro; refine ⟨fun _ => ?_, hK _ ?_⟩; (fail); clear hK K))
        refine zn ?_
        intro W6 vs6 hl hv
        have hb6 := zj.1 hl
        have HZ := Xk (HY.out.trans (hb6.mono HY.out.size))
        clear hl hv hb6
        simp only [ze]
        go_wp2_with fail
        go_ret
        exact ⟨by rw [R0.out]; rfl, HZ.out⟩
     ·have R0 : Hid (U = u.toNat) := Xk (by rw [R.out]; exact if_neg (fun h => u2 h.1))
      have q2 : (u == 2) = false := beq_eq_false_iff_ne.2 u2
      refine zo 16 [] [] (by kernel_rfl) (by kernel_rfl) (by kernel_rfl) (by intro t ht; cases ht) ?_
      simp only [Xn, Xo, Xp, Xq]
      repeat (refine zf (by rfl) (fun K hK => ?_); go_simp; first | (refine hK _ ?_; clear hK K) | (apply Exists.intro; refine ⟨fun _ => ?_, hK _ ?_⟩; (fail); clear hK K))
      refine zn ?_
      intro W6 vs6 hl hv
      have hb6 := zj.1 hl
      have HZ := Xk (HY.out.trans (hb6.mono HY.out.size))
      obtain ⟨z0, z1⟩ := K4.keep hb6 K4.lt
      clear hl hv hb6
      simp only [ze]
      go_wp2_with fail
      go_ret
      exact ⟨zC (by rw [R0.out]; omega), HZ.out⟩
    ·have R0 : Hid (U = 0) := Xk (by rw [R.out]; exact if_pos (Or.inr (Or.inr fun h => e2 (Sty.mk.inj h).2.1)))
     have q : (plC bg == bg) = false := beq_eq_false_iff_ne.2 e2
     refine zo 22 [] [] (by kernel_rfl) (by kernel_rfl) (by kernel_rfl) (by intro t ht; cases ht) ?_
     simp only [Xn, Xo, Xp, Xq]
     repeat (refine zf (by rfl) (fun K hK => ?_); go_simp; first | (refine hK _ ?_; clear hK K) | (apply Exists.intro; refine ⟨fun _ => ?_, hK _ ?_⟩; (with_reducible exact OV.out _); clear hK K))
     refine zn ?_
     intro W5 vs5 hl hv
     have hb5 := zj.1 hl
     have HY := Xk (HX.out.trans (hb5.mono HX.out.size))
     clear g30 g31 g32 g33 g34 g40 g41 hl hv hb5
     simp only [ze]
     go_wp2_with fail
     go_ret
     exact ⟨by rw [R0.out]; rfl, HY.out⟩
   ·have R0 : Hid (U = 0) := Xk (by rw [R.out]; exact if_pos (Or.inr (Or.inr fun h => e1 (Sty.mk.inj h).1)))
    have q : (plC fg == fg) = false := beq_eq_false_iff_ne.2 e1
    refine zo 22 [] [] (by kernel_rfl) (by kernel_rfl) (by kernel_rfl) (by intro t ht; cases ht) ?_
    simp only [Xn, Xo, Xp, Xq]
    repeat (refine zf (by rfl) (fun K hK => ?_); go_simp; first | (refine hK _ ?_; clear hK K) | (apply Exists.intro; refine ⟨fun _ => ?_, hK _ ?_⟩; (with_reducible exact OV.out _); clear hK K))
    refine zn ?_
    intro W5 vs5 hl hv
    have hb5 := zj.1 hl
    have HY := Xk (HX.out.trans (hb5.mono HX.out.size))
    clear g30 g31 g32 g33 g34 g40 g41 hl hv hb5
    simp only [ze]
    go_wp2_with fail
    go_ret
    exact ⟨by rw [R0.out]; rfl, HY.out⟩
  ·have R0 : Hid (U = 0) := Xk (by rw [R.out, if_pos (Or.inr (Or.inl uw))])
   have q : (u != wd) = true := by rw [bne_iff_ne]; exact uw
   refine zo 22 [] [] (by kernel_rfl) (by kernel_rfl) (by kernel_rfl) (by intro t ht; cases ht) ?_
   simp only [Xn, Xo, Xp, Xq]
   repeat (refine zf (by rfl) (fun K hK => ?_); go_simp; first | (refine hK _ ?_; clear hK K) | (apply Exists.intro; refine ⟨fun _ => ?_, hK _ ?_⟩; (fail); clear hK K))
   refine zn ?_
   intro W5 vs5 hl hv
   have hb5 := zj.1 hl
   have HY := Xk (HX.out.trans (hb5.mono HX.out.size))
   clear g30 g31 g32 g33 g34 g40 g41 hl hv hb5
   simp only [ze]
   go_wp2_with fail
   go_ret
   exact ⟨by rw [R0.out]; rfl, HY.out⟩
end
section
open Go.RowKit Go.Sort
def okC (c : Cel) : Prop := c.text.size <= 1000000000000 /\ -128 <= c.wide /\ c.wide <= 127
theorem row_step (l : List Cel) (h : l ≠ []) : rowR l = (decide (0 < zM l) && rowR (l.drop (max (zM l) 1))) := by
 have e1 := vY (l.length + 1) l (by omega)
 have e2 := vY l.length (l.drop (max (zM l) 1)) (by rw [List.length_drop]; omega)
 rw [<- e1, <- e2]
 conv => lhs; unfold xF
 rw [if_neg h]
set_option maxHeartbeats 4000000 in
theorem Zv (a b : Int) : Tells 38 #[.int .i64 a, .int .i64 b] (.bool (qo a b)) := by
 intro w
 have R : Hid (qo a b = (decide (0 <= a) && decide (a <= 4096) && decide (0 <= b) && decide (b <= 4096) && decide (a * b <= 1048576))) := Xk rfl
 generalize qo a b = r at *
 by_cases c1 : 0 <= a
 ·by_cases c2 : a <= 4096
  ·by_cases c3 : 0 <= b
   ·by_cases c4 : b <= 4096
    ·have m0 : 0 <= a * b := Int.mul_nonneg c1 c3
     have m1 : a * b <= 4096 * 4096 := Int.mul_le_mul c2 c4 c3 (by omega)
     have R : Hid (r = decide (a * b <= 1048576)) := Xk (by rw [R.out, decide_eq_true c1, decide_eq_true c2, decide_eq_true c3, decide_eq_true c4]; rfl)
     by_cases c5 : a * b <= 1048576
     all_goals
      go_enter Tryz.func38, Tryz.ntmps38
      go_wp2_with fail
      go_ret
      exact ⟨zu (by rw [R.out]; simp [c5]), rfl⟩
    ·have R : Hid (r = false) := Xk (by rw [R.out, decide_eq_false c4]; simp)
     go_enter Tryz.func38, Tryz.ntmps38
     go_wp2_with fail
     go_ret
     exact ⟨zu (by rw [R.out]), rfl⟩
   ·have R : Hid (r = false) := Xk (by rw [R.out, decide_eq_false c3]; simp)
    go_enter Tryz.func38, Tryz.ntmps38
    go_wp2_with fail
    go_ret
    exact ⟨zu (by rw [R.out]), rfl⟩
  ·have R : Hid (r = false) := Xk (by rw [R.out, decide_eq_false c2]; simp)
   go_enter Tryz.func38, Tryz.ntmps38
   go_wp2_with fail
   go_ret
   exact ⟨zu (by rw [R.out]), rfl⟩
 ·have R : Hid (r = false) := Xk (by rw [R.out, decide_eq_false c1]; simp)
  go_enter Tryz.func38, Tryz.ntmps38
  go_wp2_with fail
  go_ret
  exact ⟨zu (by rw [R.out]), rfl⟩
set_option maxHeartbeats 4000000 in
theorem d_whole1 (b : Bool) (i n : Int) (g : Nat) (w : World) (hc : w.cell? ⟨g, 0, none⟩ = some (.bool b)) (hf : w.frozen? ⟨g, 0, none⟩ = false) :
  Calls Tryz.prog 60 #[.int .i64 i, .int .i64 n, .pointer (some ⟨g, 0, none⟩)] w fun e w' => (∃ v, e = .returned v) /\ w' = w.setCell ⟨g, 0, none⟩ (.bool (b && decide (0 < n))) := by
 cases b with
 | false =>
  go_enter Tryz.func60, Tryz.ntmps60
  go_wp2_with fail
  go_end0
  exact ⟨⟨_, rfl⟩, rfl⟩
 | true =>
  obtain ⟨q, hq⟩ : ∃ q : Bool, q = (true && decide (0 < n)) := ⟨_, rfl⟩
  rw [<- hq]
  have HQ := Xk hq
  by_cases c : 0 < n
  all_goals
   have R := HQ.out
   first | rw [decide_eq_true c] at R | rw [decide_eq_false c] at R
   have R := Xk R
   clear hq
   go_enter Tryz.func60, Tryz.ntmps60
   go_wp2_with fail
   go_end0
   exact ⟨⟨_, rfl⟩, by first | rfl | (rw [R.out]; rfl)⟩
set_option maxHeartbeats 8000000 in
set_option maxRecDepth 100000 in
theorem d_units (B g : Nat) (A : Option Addr) (c : Nat) (L : List Cel) (hl : L.length <= 1000000000000) (hcp : L.length <= c) (ho : ∀ x ∈ L, okC x) (w : World) (hB : B <= g) (hg : g < w.heap.size) (hc : w.cell? ⟨g, 0, none⟩ = some (.bool true)) (hf : w.frozen? ⟨g, 0, none⟩ = false) (S : Sees w B A (zc L)) :
  Calls Tryz.prog 59 #[.slice A L.length c, .func (.func 60) #[] #[.pointer (some ⟨g, 0, none⟩)]] w fun e w' => (∃ v, e = .returned v) /\ w'.cell? ⟨g, 0, none⟩ = some (.bool (rowR L)) /\ Below B w w' := by
 obtain ⟨N, hN⟩ : ∃ N, N = L.length := ⟨_, rfl⟩
 have HN := Xk hN
 have HS := Xk S
 have HO := Xk ho
 rw [<- hN] at hl hcp ⊢
 clear S ho hN
 go_enter Tryz.func59, Tryz.ntmps59
 go_wp2_with fail
 go_loopw [4, 5] (fun i n5 wr => ∃ (k : Nat) (b : Bool), k <= N /\ i = .int .i64 k /\ Hid (rowR L = (b && rowR (L.drop k))) /\ Hid (wr.cell? ⟨g, 0, none⟩ = some (.bool b) /\ wr.frozen? ⟨g, 0, none⟩ = false /\ g < wr.heap.size /\ Below B w wr)) (fun i _ _ => N - (intOf i).toNat)
 case atStart => exact ⟨0, true, Nat.zero_le _, rfl, Xk (by simp), Xk ⟨hc, hf, hg, Below.refl _ _⟩⟩
 case round =>
  obtain ⟨k, b, hk, rfl, hr, hm⟩ := hrel
  clear hc hf hg
  by_cases lt : k < N
  ·have kl : k < L.length := by have := HN.out; omega
   obtain ⟨a, r, hd⟩ : ∃ a r, L.drop k = a :: r := ⟨L[k], L.drop (k + 1), List.drop_eq_getElem_cons kl⟩
   have ok : okC a := HO.out a (List.mem_of_mem_drop (by rw [hd]; simp))
   have ln : N - k = (a :: r).length := by rw [<- hd, List.length_drop, <- HN.out]
   obtain ⟨ad, rfl, hab⟩ : ∃ ad, A = some ad /\ ad.block < B := by
    obtain ⟨ad, e, h, _⟩ := HS.out (fun e => by have := qL L; rw [e] at this; simp at this; omega)
    exact ⟨ad, e, h⟩
   obtain ⟨m1, m2, m3, m4⟩ := hm.out
   have S1 : Sees wr wr.heap.size (some (ad.add (k * 5))) (zc (a :: r)) := by
    have h := ((HS.out.below m4 Xm).more (show B <= wr.heap.size by omega)).dropV (k * 5)
    rw [<- xI, hd] at h
    exact h
   have UN := Xk (d_unit (some (ad.add (k * 5))) (c - k) a r (N - k) ln (by omega) ok.1 ok.2.1 ok.2.2 wr S1)
   have UL := unit_le (a :: r)
   have ul2 : zM (a :: r) <= N - k := by
    have := UL.2
    rw [<- ln] at this
    omega
   have RS : Hid (rowR L = ((b && decide (0 < (zM (a :: r) : Int))) && rowR (L.drop (k + max (zM (a :: r)) 1)))) := Xk (by
    rw [hr.out, hd, row_step (a :: r) (by simp), Bool.and_assoc, <- hd, List.drop_drop]
    congr 2
    exact decide_eq_decide.2 (by omega))
   have MM := Xk (show wr.cell? ⟨g, 0, none⟩ = some (.bool b) /\ wr.frozen? ⟨g, 0, none⟩ = false /\ g < wr.heap.size /\ Below B w wr from ⟨m1, m2, m3, m4⟩)
   have ck : ¬ c = k := by omega
   have bc : B <= wr.heap.size := by omega
   generalize zM (a :: r) = u at *
   clear S1 hd ok ln UL hr m1 m2 m3 m4 hm kl
   go_wp2_with fail
   refine UN.out.mono ?_; rintro e w1 ⟨rfl, hb1⟩
   have M1 : Hid (w1.cell? ⟨g, 0, none⟩ = some (.bool b) /\ w1.frozen? ⟨g, 0, none⟩ = false /\ g < w1.heap.size /\ Below B w w1) := Xk ⟨(hb1.cell (p := ⟨g, 0, none⟩) MM.out.2.2.1).trans MM.out.1, (hb1.frozen (p := ⟨g, 0, none⟩) MM.out.2.2.1).trans MM.out.2.1, Nat.lt_of_lt_of_le MM.out.2.2.1 hb1.size, MM.out.2.2.2.trans (hb1.mono bc)⟩
   clear hb1
   go_wp2_with fail
   refine (d_whole1 b k u g w1 M1.out.1 M1.out.2.1).mono ?_; rintro e w2 ⟨⟨v, rfl⟩, rfl⟩
   have M2 : Hid ((w1.setCell ⟨g, 0, none⟩ (.bool (b && decide (0 < (u : Int))))).cell? ⟨g, 0, none⟩ = some (.bool (b && decide (0 < (u : Int)))) /\ (w1.setCell ⟨g, 0, none⟩ (.bool (b && decide (0 < (u : Int))))).frozen? ⟨g, 0, none⟩ = false /\ g < (w1.setCell ⟨g, 0, none⟩ (.bool (b && decide (0 < (u : Int))))).heap.size /\ Below B w (w1.setCell ⟨g, 0, none⟩ (.bool (b && decide (0 < (u : Int)))))) := Xk (by
    obtain ⟨a1, a2, a3, a4⟩ := M1.out
    exact ⟨by simp [go_sem, *], by simp [go_sem, *], by simpa using a3, a4.setCell hB _⟩)
   generalize w1.setCell ⟨g, 0, none⟩ (.bool (b && decide (0 < (u : Int)))) = w2 at *
   clear M1
   by_cases u0 : u = 0
   ·subst u0
    go_wp2_with fail
    go_roundw
    case rel => exact ⟨k + 1, _, by omega, by go_num, RS, M2⟩
    case measure => simp [intOf]; omega
   ·have e1 : max u 1 = u := by omega
    rw [e1] at RS
    have u1 : 1 <= (u : Int) := by omega
    go_wp2_with fail
    go_roundw
    case rel => exact ⟨k + u, _, by omega, by go_num, RS, M2⟩
    case measure => simp [intOf]; omega
  ·have e : k = N := by omega
   subst e
   have R : Hid (rowR L = b) := Xk (by rw [hr.out, List.drop_eq_nil_of_le (by have := HN.out; omega)]; simp [rowR])
   have HM := Xk hm.out
   clear hr hm
   go_wp2_with fail
   go_end0
   exact ⟨⟨_, rfl⟩, by rw [R.out]; exact HM.out.1, HM.out.2.2.2⟩
end
section
open Go.RowKit Go.Sort
set_option maxHeartbeats 4000000 in
theorem d_whole (A : Option Addr) (c : Nat) (L : List Cel) (n : Nat) (hn : n = L.length) (hl : L.length <= 1000000000000) (hcp : L.length <= c) (ho : ∀ x ∈ L, okC x) (w : World) (S : Sees w w.heap.size A (zc L)) :
  Calls Tryz.prog 39 #[.slice A n c] w fun e w' => e = .returned (.bool (rowR L)) /\ Below w.heap.size w w' := by
 subst hn
 have hmf : ∀ (fn : Fn) (first cap : Array Value) (w : World), (Instr.makeFunc fn first cap).run Tryz.prog w = .ok (.func fn first cap) w := fun _ _ _ _ => rfl
 obtain ⟨W, hW⟩ : ∃ W, W = w.alloc (.cells #[.bool true] 4) := ⟨_, rfl⟩
 have hB : Below w.heap.size w W := by rw [hW]; exact (Below.refl _ w).alloc Xm _
 have U := Xk (d_units w.heap.size w.heap.size A c L hl hcp ho W Xm (by rw [hW]; simp) (by rw [hW]; simp [go_sem]) (by rw [hW]; simp [go_sem]) (S.below hB Xm))
 have HB := Xk hB
 generalize rowR L = r at *
 generalize L.length = n at *
 clear hB S ho
 go_enter Tryz.func39, Tryz.ntmps39
 go_wp2_with fail
 rw [<- hW]
 clear hW
 refine U.out.mono ?_; rintro e w1 ⟨⟨v, rfl⟩, hc, hb⟩
 have HB2 := Xk (HB.out.trans hb)
 clear hb
 go_wp2_with fail
 go_ret
 exact ⟨rfl, HB2.out⟩
def scrV (s : Scr) (A : Option Addr) (c : Nat) : Value := .agg #[.int .i64 s.w, .int .i64 s.h, .slice A s.cells.length c, .int .i64 s.x, .int .i64 s.y, .bool s.shown]
theorem Zw (s : Scr) (h : qo s.w s.h = false) : zh s = false := by unfold zh; rw [h]; rfl
theorem Zx (s : Scr) (h : ¬ (s.cells.length : Int) = s.w * s.h) : zh s = false := by unfold zh; rw [decide_eq_false h]; simp
theorem Zy (s : Scr) (y : Nat) (hy : y < s.h.toNat) (h : rowR (zP s y) = false) : zh s = false := by
 cases e : zh s with
 | false => rfl
 | true => have := (zQ e).2.2.1 y hy; rw [h] at this; cases this
theorem Zz (s : Scr) (h1 : qo s.w s.h = true) (h2 : (s.cells.length : Int) = s.w * s.h) (h3 : ∀ y, y < s.h.toNat -> rowR (zP s y) = true) : zh s = qK s := by
 cases e : qK s with
 | false =>
  unfold zh
  rw [e]
  simp
 | true => exact Zr h1 h2 h3 e
def cutA (A : Option Addr) (c P : Nat) : Option Addr := if c = P then A else A.map fun a => a.add (P * 5)
theorem Jr (A : Option Addr) (n c P : Nat) (h : P <= n) (W : World) : (Instr.slice 22 (.slice A n c) (some (.int .i64 (P : Int))) none none).run Tryz.prog W = .ok (.slice (cutA A c P) (n - P) (c - P)) W := by
 rw [run_slice_l W 22 A n c (by kernel_rfl) .i64 (P : Int) (by omega) (by omega)]
 rw [Int.toNat_natCast]
 have sz : (sizeOf (Tryz.prog.elem 22)).run Tryz.prog W = .ok 5 W := by kernel_rfl
 rw [sz]
 rfl
theorem ZC {w : World} {B : Nat} {A : Option Addr} {L : List Cel} (c P : Nat) (h : Sees w B A (zc L)) (hc : L.length <= c) : Sees w B (cutA A c P) (zc (L.drop P)) := by
 unfold cutA
 by_cases e : c = P
 ·rw [if_pos e, List.drop_eq_nil_of_le (by omega)]
  exact Sees.nil _ _ _
 ·rw [if_neg e]
  cases A with
  | none =>
   have : L = [] := by
    cases L with
    | nil => rfl
    | cons a r =>
     obtain ⟨ad, e, _⟩ := h (by rw [jn]; simp [celV])
     cases e
   subst this
   rw [List.drop_nil]
   exact Sees.nil _ _ _
  | some ad => rw [xI]; exact h.dropV _
set_option maxHeartbeats 16000000 in
set_option maxRecDepth 100000 in
theorem kG (s : Scr) (A : Option Addr) (c : Nat) (hcp : s.cells.length <= c) (hA : A = none -> c = 0) (hl : s.cells.length <= 1000000000000) (ho : ∀ x ∈ s.cells, okC x) (w : World) (S : Sees w w.heap.size A (zc s.cells)) :
  Calls Tryz.prog 23 #[scrV s A c] w fun e w' => e = .returned (.bool (zh s)) /\ Below w.heap.size w w' := by
 have R1 := Xk (Zw s)
 have R2 := Xk (Zx s)
 have R3 := Xk (Zy s)
 have R4 := Xk (Zz s)
 have ROW : Hid (∀ k, zP s k = (s.cells.drop (k * s.w.toNat)).take s.w.toNat) := Xk (fun _ => rfl)
 have CU : Hid (qK s = if s.shown = true then decide (0 <= s.x) && decide (s.x < s.w) && decide (0 <= s.y) && decide (s.y < s.h) else decide (s.x = 0) && decide (s.y = 0)) := Xk rfl
 have HO := Xk ho
 have HS := Xk S
 have HAN := Xk hA
 generalize zh s = r at *
 generalize qK s = cu at *
 simp only [scrV]
 obtain ⟨N, hN⟩ : ∃ N, N = s.cells.length := ⟨_, rfl⟩
 rw [<- hN] at hcp hl R2 R4 ⊢
 have HN := Xk hN
 clear ho S hA hN
 cases hs : qo s.w s.h with
 | false =>
  have R := Xk (R1.out hs)
  have SZ := Xk (Zv s.w s.h)
  rw [hs] at SZ
  clear hs
  go_enter Tryz.func23, Tryz.ntmps23
  go_wp2_with fail
  refine (SZ.out _).mono ?_; rintro e w1 ⟨rfl, rfl⟩
  go_wp2_with fail
  go_ret
  exact ⟨zu (by rw [R.out]), by go_grown⟩
 | true =>
  have SZ := Xk (Zv s.w s.h)
  have R5 := Xk (R4.out hs)
  clear R4
  obtain ⟨w0, w1, h0, h1, wh⟩ := qS hs
  rw [hs] at SZ
  obtain ⟨W, hW⟩ : ∃ W : Nat, s.w = (W : Int) := ⟨s.w.toNat, by omega⟩
  obtain ⟨H, hH⟩ : ∃ H : Nat, s.h = (H : Int) := ⟨s.h.toNat, by omega⟩
  rw [hW, hH] at R2 R5 SZ CU wh ⊢
  rw [hH] at R3
  rw [Int.toNat_natCast] at R3 R5
  rw [hW] at ROW w0 w1
  rw [hH] at h0 h1
  rw [Int.toNat_natCast] at ROW
  obtain ⟨M, hM⟩ : ∃ M : Nat, M = W * H := ⟨_, rfl⟩
  have eM : (W : Int) * (H : Int) = (M : Int) := by rw [hM, Int.natCast_mul]
  have HM := Xk hM
  rw [eM] at R2 R5 wh
  clear hs hW hH hM
  obtain ⟨Q, hQ⟩ : ∃ Q, Q = w.alloc (.cells #[.int .i64 (W : Int), .int .i64 (H : Int), .slice A N c, .int .i64 s.x, .int .i64 s.y, .bool s.shown] 24) := ⟨_, rfl⟩
  have BQ := Xk (show Below w.heap.size w Q by rw [hQ]; exact (Below.refl _ w).alloc Xm _)
  have q0 : Q.cell? ⟨w.heap.size, 0, none⟩ = some (.int .i64 (W : Int)) := by rw [hQ]; simp [go_sem]
  have q1 : Q.cell? ⟨w.heap.size, 1, none⟩ = some (.int .i64 (H : Int)) := by rw [hQ]; simp [go_sem]
  have q2 : Q.cell? ⟨w.heap.size, 2, none⟩ = some (.slice A N c) := by rw [hQ]; simp [go_sem]
  have q3 : Q.cell? ⟨w.heap.size, 3, none⟩ = some (.int .i64 s.x) := by rw [hQ]; simp [go_sem]
  have q4 : Q.cell? ⟨w.heap.size, 4, none⟩ = some (.int .i64 s.y) := by rw [hQ]; simp [go_sem]
  have q5 : Q.cell? ⟨w.heap.size, 5, none⟩ = some (.bool s.shown) := by rw [hQ]; simp [go_sem]
  have HQ := Xk hQ
  by_cases hn : (N : Int) = (M : Int)
  ·have R6 := Xk (R5.out hn)
   clear R5
   have nm : N = M := by omega
   subst nm
   go_enter Tryz.func23, Tryz.ntmps23
   go_wp2_with fail
   rw [<- hQ]
   clear hQ
   refine (SZ.out _).mono ?_; rintro e w1 ⟨rfl, rfl⟩
   go_wp2_with fail
   go_loopw [23] (fun i wr => ∃ k : Nat, k <= H /\ i = .int .i64 k /\ Hid (∀ y, y < k -> rowR (zP s y) = true) /\ Hid (Below Q.heap.size Q wr)) (fun i _ => H - (intOf i).toNat)
   case atStart => exact ⟨0, Nat.zero_le _, rfl, Xk (fun y h => by omega), Xk (Below.refl _ _)⟩
   case round =>
    obtain ⟨k, hk, rfl, hr, hbq⟩ := hrel
    have hqs : w.heap.size < Q.heap.size := block_lt_of_cell q0
    have z0 : wr.cell? ⟨w.heap.size, 0, none⟩ = some (.int .i64 (W : Int)) := (hbq.out.cell (p := ⟨w.heap.size, 0, none⟩) hqs).trans q0
    have z2 : wr.cell? ⟨w.heap.size, 2, none⟩ = some (.slice A N c) := (hbq.out.cell (p := ⟨w.heap.size, 2, none⟩) hqs).trans q2
    have z3 : wr.cell? ⟨w.heap.size, 3, none⟩ = some (.int .i64 s.x) := (hbq.out.cell (p := ⟨w.heap.size, 3, none⟩) hqs).trans q3
    have z4 : wr.cell? ⟨w.heap.size, 4, none⟩ = some (.int .i64 s.y) := (hbq.out.cell (p := ⟨w.heap.size, 4, none⟩) hqs).trans q4
    have z5 : wr.cell? ⟨w.heap.size, 5, none⟩ = some (.bool s.shown) := (hbq.out.cell (p := ⟨w.heap.size, 5, none⟩) hqs).trans q5
    have z1 : wr.cell? ⟨w.heap.size, 1, none⟩ = some (.int .i64 (H : Int)) := (hbq.out.cell (p := ⟨w.heap.size, 1, none⟩) hqs).trans q1
    have Z5 := Xk q5
    clear q0 q1 q2 q3 q4 q5
    by_cases lt : k < H
    ·obtain ⟨P, hP⟩ : ∃ P : Nat, P = k * W := ⟨_, rfl⟩
     have eP : (k : Int) * (W : Int) = (P : Int) := by rw [hP, Int.natCast_mul]
     have le : P + W <= N := by
      rw [hP, HM.out, Nat.mul_comm W H, <- Nat.succ_mul]
      exact Nat.mul_le_mul_right _ lt
     have ROWK : zP s k = (s.cells.drop P).take W := by rw [ROW.out, hP]
     have hs1 := fun X => Jr A N c P (by omega) X
     have sc2 : (W : Int) <= ((c - P : Nat) : Int) := by omega
     have wP : IntKind.i64.wrap (P : Int) = (P : Int) := by rw [IntKind.wrap_i64]; omega
     have SW : Sees wr wr.heap.size (cutA A c P) (zc ((s.cells.drop P).take W)) := by
      rw [xJ]
      refine Sees.takeV _ ?_
      refine ZC c P ?_ (by rw [<- HN.out]; exact hcp)
      exact (HS.out.below (BQ.out.trans (hbq.out.mono BQ.out.size)) Xm).more (by have := hbq.out.size; have := BQ.out.size; omega)
     have lw : W = ((s.cells.drop P).take W).length := by rw [List.length_take, List.length_drop, <- HN.out]; omega
     have WH : Hid (∀ d os, Calls Tryz.prog 39 #[.slice (cutA A c P) W (c - P)] (grow (redrawn wr d) os) fun e w' => e = .returned (.bool (rowR (zP s k))) /\ zL (grow (redrawn wr d) os) w') := Xk (fun d os => by
      rw [ROWK]
      exact js (d_whole _ _ _ W lw (by omega) (by omega) (fun x hx => HO.out x (List.mem_of_mem_drop (List.mem_of_mem_take hx))) _ ((SW.below (below_regrown wr d os) Xm).more (below_regrown wr d os).size)))
     clear hP SW lw ROWK
     generalize cutA A c P = A2 at *
     go_upto_region 6 with fail
     have g0 : ∀ d os, (grow (redrawn wr d) os).cell? ⟨w.heap.size, 0, none⟩ = some (.int .i64 (W : Int)) := fun d os => ((below_regrown wr d os).cell (p := ⟨w.heap.size, 0, none⟩) (block_lt_of_cell z0)).trans z0
     have g2 : ∀ d os, (grow (redrawn wr d) os).cell? ⟨w.heap.size, 2, none⟩ = some (.slice A N c) := fun d os => ((below_regrown wr d os).cell (p := ⟨w.heap.size, 2, none⟩) (block_lt_of_cell z2)).trans z2
     refine zo 11 [] [] (by kernel_rfl) (by kernel_rfl) (by kernel_rfl) (by intro t ht; cases ht) ?_
     simp only [Xn, Xo, Xp, Xq]
     repeat (refine zf (by rfl) (fun K hK => ?_); go_simp; first | (refine hK _ ?_; clear hK K) | (apply Exists.intro; refine ⟨fun _ => ?_, hK _ ?_⟩; (with_reducible exact WH.out _ _); clear hK K))
     refine zn ?_
     intro W5 vs5 hl hv
     have hb5 := zj.1 hl
     have B5 := Xk (hbq.out.trans (hb5.mono hbq.out.size))
     have RR := Xk (R3.out k lt)
     have RN := Xk hr.out
     clear hl hv hb5 g0 g2 WH
     simp only [ze]
     cases hq : rowR (zP s k) with
     | true =>
      have RQ : Hid (∀ y, y < k + 1 -> rowR (zP s y) = true) := Xk (fun y hy => by
       by_cases e : y = k
       ·rw [e]; exact hq
       ·exact RN.out y (by omega))
      clear hq
      go_wp2_with fail
      go_roundw
      case rel => exact ⟨k + 1, by omega, by go_num, RQ, B5⟩
      case measure => simp [intOf]; omega
     | false =>
      have R := Xk (RR.out hq)
      clear hq
      go_wp2_with fail
      go_ret
      exact ⟨zu (by rw [R.out]), BQ.out.trans (B5.out.mono BQ.out.size)⟩
    ·have e : k = H := by omega
     subst e
     have R := Xk (R6.out hr.out)
     have BB := Xk (BQ.out.trans (hbq.out.mono BQ.out.size))
     clear hr hbq
     generalize s.shown = sn at *
     generalize s.x = X at *
     generalize s.y = Y at *
     cases sn with
     | false =>
      by_cases x0 : X = 0
      ·by_cases y0 : Y = 0
       ·have e1 : (X == 0) = true := beq_iff_eq.2 x0
        have e2 : (Y == 0) = true := beq_iff_eq.2 y0
        have RC : Hid (r = true) := Xk (by rw [R.out, CU.out, x0, y0]; rfl)
        clear x0 y0
        go_wp2_with fail
        go_ret
        exact ⟨zu (by rw [RC.out]), BB.out⟩
       ·have e1 : (X == 0) = true := beq_iff_eq.2 x0
        have e2 : (Y == 0) = false := beq_eq_false_iff_ne.2 y0
        have RC : Hid (r = false) := Xk (by rw [R.out, CU.out, decide_eq_false y0]; simp)
        clear x0 y0
        go_wp2_with fail
        go_ret
        exact ⟨zu (by rw [RC.out]), BB.out⟩
      ·have e1 : (X == 0) = false := beq_eq_false_iff_ne.2 x0
       have RC : Hid (r = false) := Xk (by rw [R.out, CU.out, decide_eq_false x0]; simp)
       clear x0
       go_wp2_with fail
       go_ret
       exact ⟨zu (by rw [RC.out]), BB.out⟩
     | true =>
      have CU2 : Hid (r = (decide (0 <= X) && decide (X < (W : Int)) && decide (0 <= Y) && decide (Y < (k : Int)))) := Xk (by rw [R.out, CU.out, if_pos rfl])
      by_cases x0 : 0 <= X
      ·by_cases x1 : X < (W : Int)
       ·by_cases y0 : 0 <= Y
        ·by_cases y1 : Y < (k : Int)
         ·have RC : Hid (r = true) := Xk (by rw [CU2.out, decide_eq_true x0, decide_eq_true x1, decide_eq_true y0, decide_eq_true y1]; rfl)
          go_wp2_with fail
          go_ret
          exact ⟨zu (by rw [RC.out]), BB.out⟩
         ·have RC : Hid (r = false) := Xk (by rw [CU2.out, decide_eq_false y1]; simp)
          go_wp2_with fail
          go_ret
          exact ⟨zu (by rw [RC.out]), BB.out⟩
        ·have RC : Hid (r = false) := Xk (by rw [CU2.out, decide_eq_false y0]; simp)
         go_wp2_with fail
         go_ret
         exact ⟨zu (by rw [RC.out]), BB.out⟩
       ·have RC : Hid (r = false) := Xk (by rw [CU2.out, decide_eq_false x1]; simp)
        go_wp2_with fail
        go_ret
        exact ⟨zu (by rw [RC.out]), BB.out⟩
      ·have RC : Hid (r = false) := Xk (by rw [CU2.out, decide_eq_false x0]; simp)
       go_wp2_with fail
       go_ret
       exact ⟨zu (by rw [RC.out]), BB.out⟩
  ·have R := Xk (R2.out hn)
   go_enter Tryz.func23, Tryz.ntmps23
   go_wp2_with fail
   rw [<- hQ]
   clear hQ
   refine (SZ.out _).mono ?_; rintro e w1 ⟨rfl, rfl⟩
   have hn' : ((N : Int) == (M : Int)) = false := by simpa using hn
   go_wp2_with fail
   go_ret
   exact ⟨zu (by rw [R.out]), BQ.out⟩
set_option maxHeartbeats 4000000 in
theorem d_Blank (s : Sty) : Gives 48 #[styV s.fg s.bg s.at_] (.agg #[.string ⟨#[32]⟩, .int .i8 1, .int .i32 (zq s).fg, .int .i32 (zq s).bg, .int .u8 (bI (zq s).at_)]) := by
 intro w
 have OV := Xk (over0 s)
 generalize zq s = t at *
 go_enter Tryz.func48, Tryz.ntmps48
 go_wp2_with fail
 refine (OV.out _).mono ?_; rintro e w1 ⟨rfl, hb1⟩
 have K : C5 w1 (w.heap.size + 1) (.string ⟨#[]⟩) (.int .i8 0) (.int .i32 0) (.int .i32 0) (.int .u8 0) := C5.keep (by constructor <;> simp [go_sem]) hb1 (by simp)
 have F : ∀ k, w1.frozen? ⟨w.heap.size + 1, k, none⟩ = false := fun k => (hb1.frozen (p := ⟨w.heap.size + 1, k, none⟩) (by simp)).trans (by simp [go_sem])
 have HB := Xk (show Below w.heap.size w w1 from zk (by go_grown) (by simp; omega) hb1)
 clear hb1
 obtain ⟨k0, k1, k2, k3, k4⟩ := K
 have f0 := F 0
 have f1 := F 1
 have f2 := F 2
 have f3 := F 3
 have f4 := F 4
 clear F
 go_wp2_with fail
 refine bodyPost_ret (v := .agg #[.string ⟨#[32]⟩, .int .i8 1, .int .i32 t.fg, .int .i32 t.bg, .int .u8 (bI t.at_)]) (by simp [results, Tryz.results48, go_sem, k0, k1, k2, k3, k4]) rfl ⟨rfl, ?_⟩
 repeat (first | with_reducible exact HB.out | refine Below.setCell ?_ (by first | exact Xm | exact Nat.le_succ _) _)
end
section
open Go Go.RowKit Go.Sort
section
theorem pair_eq (a b : Cel) : zJ a b = (decide (a.wide = 2) && decide (oneB a.text = some 2) && decide (b.wide = 0) && decide (b.text = ⟨#[]⟩) && decide (a.st = b.st) && decide (zq a.st = a.st)) := rfl
theorem st_eq (a b : Sty) : decide (a = b) = (decide (a.fg = b.fg) && decide (a.bg = b.bg) && decide (bI a.at_ = bI b.at_)) := by
 obtain ⟨f, g, x⟩ := a
 obtain ⟨f', g', x'⟩ := b
 have e : (bI x = bI x') ↔ x = x' := ⟨fun z => by unfold bI at z; exact BitVec.eq_of_toNat_eq (by omega), fun z => by rw [z]⟩
 rw [Bool.eq_iff_iff]
 simp [e, and_assoc]
set_option maxHeartbeats 32000000 in
set_option maxRecDepth 100000 in
theorem ref_Pair (x y : Cel) (ok : okR x) (ok2 : okR y) (w : World) : Calls Tryz.prog 55 #[.agg #[.string x.text, .int .i8 x.wide, .int .i32 x.st.fg, .int .i32 x.st.bg, .int .u8 (bI x.st.at_)], .agg #[.string y.text, .int .i8 y.wide, .int .i32 y.st.fg, .int .i32 y.st.bg, .int .u8 (bI y.st.at_)]] w fun e w' => e = .returned (.bool (zJ x y)) /\ Below w.heap.size w w' := by
 obtain ⟨ta, wda, sa⟩ := x
 obtain ⟨tb, wdb, sb⟩ := y
 obtain ⟨sz, w0, w1', fg, bg⟩ := ok
 clear ok2
 dsimp only at *
 have PL := Xk (fun W => Zf sa fg bg W)
 have SE := Xk (pair_eq ⟨ta, wda, sa⟩ ⟨tb, wdb, sb⟩)
 dsimp only at SE
 rw [st_eq sa sb] at SE
 generalize zJ ⟨ta, wda, sa⟩ ⟨tb, wdb, sb⟩ = F at *
 generalize decide (zq sa = sa) = D at *
 obtain ⟨fa, ba, aa⟩ := sa
 obtain ⟨fb, bb, ab⟩ := sb
 dsimp only at *
 obtain ⟨Q0, hQ0⟩ : ∃ Q0, Q0 = w.alloc (.cells #[.string ta, .int .i8 wda, .int .i32 fa, .int .i32 ba, .int .u8 (bI aa)] 58) := ⟨_, rfl⟩
 have B0 : Below w.heap.size w Q0 := by rw [hQ0]; exact (Below.refl _ w).alloc Xm _
 have K0 : Bq Q0 w.heap.size [.string ta, .int .i8 wda, .int .i32 fa, .int .i32 ba, .int .u8 (bI aa)] := by rw [hQ0]; exact Bq.new w _ _
 have z0 : Q0.heap.size = w.heap.size + 1 := by rw [hQ0]; simp
 obtain ⟨Q, hQ⟩ : ∃ Q, Q = Q0.alloc (.cells #[.string tb, .int .i8 wdb, .int .i32 fb, .int .i32 bb, .int .u8 (bI ab)] 58) := ⟨_, rfl⟩
 have B1 : Below Q0.heap.size Q0 Q := by rw [hQ]; exact (Below.refl _ Q0).alloc Xm _
 have KA : Bq Q w.heap.size [.string ta, .int .i8 wda, .int .i32 fa, .int .i32 ba, .int .u8 (bI aa)] := K0.keep B1 (by omega)
 have KB : Bq Q (w.heap.size + 1) [.string tb, .int .i8 wdb, .int .i32 fb, .int .i32 bb, .int .u8 (bI ab)] := by rw [hQ, <- z0]; exact Bq.new Q0 _ _
 have z1 : Q.heap.size = w.heap.size + 2 := by rw [hQ]; simp [z0]
 have HB := Xk (B0.trans (B1.mono B0.size))
 have OT := Xk (vZ ta sz Q)
 have HQ := Xk (show Q = (w.alloc (.cells #[.string ta, .int .i8 wda, .int .i32 fa, .int .i32 ba, .int .u8 (bI aa)] 58)).alloc (.cells #[.string tb, .int .i8 wdb, .int .i32 fb, .int .i32 bb, .int .u8 (bI ab)] 58) by rw [hQ, hQ0])
 have HA := Xk KA
 have HC := Xk KB
 have k0 := HA.out.c 0 _ rfl
 have ZS := Xk z1
 generalize oneB ta = o at *
 clear hQ hQ0 B0 B1 K0 KA KB z0 z1 fg bg sz w0 w1'
 go_enter Tryz.func55, Tryz.ntmps55
 go_upto_region 1 with fail
 rw [<- HQ.out]
 clear HQ
 cases o with
 | none =>
  have R := Xk (show F = false by rw [SE.out, decide_eq_false (show ¬ (none : Option Int) = some 2 by intro z; cases z)]; simp)
  unfold oneV at OT
  go_wp2_with fail
  refine OT.out.mono ?_; rintro e w1 ⟨rfl, hw1⟩
  obtain ⟨V, hV⟩ : ∃ V, V = w1.alloc (.cells #[.string ⟨#[]⟩, .int .i64 0] 109) := ⟨_, rfl⟩
  have bv : Below w1.heap.size w1 V := by rw [hV]; exact (Below.refl _ w1).alloc Xm _
  have HV := Xk hV
  have n1 := ((HA.out.keep hw1 (by rw [ZS.out]; omega)).keep bv (by have := hw1.size; rw [ZS.out] at this; omega)).c 1 _ rfl
  have HBV := Xk ((HB.out.trans (hw1.mono HB.out.size)).trans (bv.mono (Nat.le_trans HB.out.size hw1.size)))
  clear OT hw1 hV bv k0
  go_upto_region 2 with fail
  rw [<- HV.out]
  clear HV
  by_cases e1 : wda = 2
  ·have q1 : (wda == 2) = true := by rw [e1]; rfl
   clear e1
   go_wp2_with fail
   go_ret
   exact ⟨by rw [R.out]; rfl, HBV.out⟩
  ·have q1 : (wda == 2) = false := by rw [beq_eq_false_iff_ne]; exact e1
   clear e1
   go_wp2_with fail
   go_ret
   exact ⟨by rw [R.out]; rfl, HBV.out⟩
 | some u =>
  have ST := Xk (show F = (decide (wda = 2) && decide (u = 2) && decide (wdb = 0) && decide (tb = ⟨#[]⟩) && (decide (fa = fb) && decide (ba = bb) && decide (bI aa = bI ab)) && D) by
   rw [SE.out]
   congr 5
   rw [Bool.eq_iff_iff]
   simp)
  unfold oneV at OT
  go_wp2_with fail
  refine OT.out.mono ?_; rintro e w1 ⟨rfl, hw1⟩
  obtain ⟨V, hV⟩ : ∃ V, V = w1.alloc (.cells #[.string ta, .int .i64 u] 109) := ⟨_, rfl⟩
  have bv : Below w1.heap.size w1 V := by rw [hV]; exact (Below.refl _ w1).alloc Xm _
  have KV : Bq V w1.heap.size [.string ta, .int .i64 u] := by rw [hV]; exact Bq.new w1 _ _
  have HV := Xk hV
  have KN := ((HA.out.keep hw1 (by rw [ZS.out]; omega)).keep bv (by have := hw1.size; rw [ZS.out] at this; omega))
  have KM := ((HC.out.keep hw1 (by rw [ZS.out]; omega)).keep bv (by have := hw1.size; rw [ZS.out] at this; omega))
  have n1 := KN.c 1 _ rfl
  have n2 := KN.c 2 _ rfl
  have n3 := KN.c 3 _ rfl
  have n4 := KN.c 4 _ rfl
  have o0 := KM.c 0 _ rfl
  have o1 := KM.c 1 _ rfl
  have o2 := KM.c 2 _ rfl
  have o3 := KM.c 3 _ rfl
  have o4 := KM.c 4 _ rfl
  have m1 := KV.c 1 _ rfl
  have HBV := Xk ((HB.out.trans (hw1.mono HB.out.size)).trans (bv.mono (Nat.le_trans HB.out.size hw1.size)))
  have PL := Xk (PL.out V)
  clear OT hw1 hV bv k0 KN KM KV SE
  go_upto_region 2 with fail
  rw [<- HV.out]
  clear HV
  by_cases e1 : wda = 2
  ·have q1 : (wda == 2) = true := by rw [e1]; rfl
   by_cases e2 : u = 2
   ·have q2 : (u == 2) = true := by rw [e2]; rfl
    by_cases e3 : wdb = 0
    ·have q3 : (wdb == 0) = true := by rw [e3]; rfl
     by_cases e4 : tb = ⟨#[]⟩
     ·have q4 : tb.toList = [] := (xK tb).2 e4
      by_cases e5 : fa = fb
      ·have q5 : (fa == fb) = true := by rw [e5]; exact beq_self_eq_true fb
       by_cases e6 : ba = bb
       ·have q6 : (ba == bb) = true := by rw [e6]; exact beq_self_eq_true bb
        by_cases e7 : bI aa = bI ab
        ·have q7 : (bI aa == bI ab) = true := by rw [e7]; exact beq_self_eq_true (bI ab)
         have R := Xk (show F = D by rw [ST.out]; simp [e1, e2, e3, e4, e5, e6, e7])
         have PL : Hid (Calls Tryz.prog 73 #[.agg #[.int .i32 fb, .int .i32 bb, .int .u8 (bI ab)]] V fun e w' => e = .returned (.bool D) /\ Below V.heap.size V w') := Xk (by have p := PL.out; unfold styV at p; rw [e5, e6, e7] at p; exact p)
         clear e1 e2 e3 e4
         go_wp2_with fail
         refine PL.out.mono ?_; rintro e w3 ⟨rfl, h3⟩
         have HB3 := Xk (HBV.out.trans (h3.mono HBV.out.size))
         clear h3 PL
         go_wp2_with fail
         go_ret
         exact ⟨by rw [R.out]; rfl, HB3.out⟩
        ·have q7 : (bI aa == bI ab) = false := by rw [beq_eq_false_iff_ne]; exact e7
         have R := Xk (show F = false by rw [ST.out]; simp [e7])
         go_wp2_with fail
         go_ret
         exact ⟨by rw [R.out]; rfl, HBV.out⟩
       ·have q6 : (ba == bb) = false := by rw [beq_eq_false_iff_ne]; exact e6
        have R := Xk (show F = false by rw [ST.out]; simp [e6])
        go_wp2_with fail
        go_ret
        exact ⟨by rw [R.out]; rfl, HBV.out⟩
      ·have q5 : (fa == fb) = false := by rw [beq_eq_false_iff_ne]; exact e5
       have R := Xk (show F = false by rw [ST.out]; simp [e5])
       go_wp2_with fail
       go_ret
       exact ⟨by rw [R.out]; rfl, HBV.out⟩
     ·have q4 : ¬ tb.toList = [] := fun z => e4 ((xK tb).1 z)
      have R := Xk (show F = false by rw [ST.out]; simp [e4])
      go_wp2_with fail
      go_ret
      exact ⟨by rw [R.out]; rfl, HBV.out⟩
    ·have q3 : (wdb == 0) = false := by rw [beq_eq_false_iff_ne]; exact e3
     have R := Xk (show F = false by rw [ST.out]; simp [e3])
     go_wp2_with fail
     go_ret
     exact ⟨by rw [R.out]; rfl, HBV.out⟩
   ·have q2 : (u == 2) = false := by rw [beq_eq_false_iff_ne]; exact e2
    have R := Xk (show F = false by rw [ST.out]; simp [e2])
    go_wp2_with fail
    go_ret
    exact ⟨by rw [R.out]; rfl, HBV.out⟩
  ·have q1 : (wda == 2) = false := by rw [beq_eq_false_iff_ne]; exact e1
   have R := Xk (show F = false by rw [ST.out]; simp [e1])
   go_wp2_with fail
   go_ret
   exact ⟨by rw [R.out]; rfl, HBV.out⟩
end
end
section
open Go Go.RowKit Go.Sort
section
theorem qT {w : World} {B : Nat} {ad : Addr} {L : List Cel} (h : Sees w B (some ad) (zc L)) (k : Nat) (hk : k < L.length) :
  w.cell? (ad.add (k * 5)) = some (.string (L[k]).text) /\ w.cell? ⟨(ad.add (k * 5)).block, (ad.add (k * 5)).off + 1, none⟩ = some (.int .i8 (L[k]).wide) /\ w.cell? ⟨(ad.add (k * 5)).block, (ad.add (k * 5)).off + 2, none⟩ = some (.int .i32 (L[k]).st.fg) /\ w.cell? ⟨(ad.add (k * 5)).block, (ad.add (k * 5)).off + 3, none⟩ = some (.int .i32 (L[k]).st.bg) /\ w.cell? ⟨(ad.add (k * 5)).block, (ad.add (k * 5)).off + 4, none⟩ = some (.int .u8 (bI (L[k]).st.at_)) := by
 have d := Sees.dropV (k * 5) h
 rw [<- xI, List.drop_eq_getElem_cons hk] at d
 obtain ⟨a2, e, _, c0, c1, c2, c3, c4⟩ := kE d
 cases e
 exact ⟨c0, c1, c2, c3, c4⟩
theorem row_drop {L : List Cel} {i : Nat} (h : i < L.length) : rowR (L.drop i) = if h2 : i + 1 < L.length then (if zJ L[i] L[i + 1] = true then rowR (L.drop (i + 2)) else if zH L[i] = true then rowR (L.drop (i + 1)) else false) else zH L[i] := by
 rw [List.drop_eq_getElem_cons h]
 by_cases h2 : i + 1 < L.length
 ·rw [dif_pos h2, List.drop_eq_getElem_cons h2]
  rfl
 ·rw [dif_neg h2, List.drop_eq_nil_of_le (by omega)]
  rfl
set_option maxHeartbeats 32000000 in
set_option maxRecDepth 100000 in
theorem ref_Row (A : Option Addr) (c : Nat) (L : List Cel) (hl : L.length <= 1000000000000) (ok : ∀ x ∈ L, okR x) (w : World) (S : Sees w w.heap.size A (zc L)) :
  Calls Tryz.prog 36 #[.slice A L.length c] w fun e w' => e = .returned (.bool (rowR L)) /\ Below w.heap.size w w' := by
 have HS := Xk S
 have HO := Xk ok
 obtain ⟨n, hn⟩ : ∃ n, n = L.length := ⟨_, rfl⟩
 have HN := Xk hn
 obtain ⟨R, hR⟩ : ∃ R, R = rowR L := ⟨_, rfl⟩
 have HR := Xk hR
 rw [<- hn] at hl ⊢
 rw [<- hR]
 clear S ok hn hR
 go_enter Tryz.func36, Tryz.ntmps36
 go_wp2_with fail
 go_loopw [3] (fun s3 wr => ∃ i : Nat, i <= n /\ s3 = .int .i64 (i : Int) /\ Hid (rowR (L.drop i) = R) /\ Hid (Below w.heap.size w wr)) (fun s3 _ => n - (intOf s3).toNat)
 case atStart => exact ⟨0, Nat.zero_le _, rfl, Xk (by rw [List.drop_zero]; exact HR.out.symm), Xk (Below.refl _ _)⟩
 case round =>
  obtain ⟨i, hi, rfl, hI, hb⟩ := hrel
  by_cases lt : i < n
  ·have il : i < L.length := by rw [<- HN.out]; exact lt
   have ne : zc L ≠ [] := fun z => by have := congrArg List.length z; rw [qL] at this; simp at this; omega
   obtain ⟨ad, rfl, hab, _⟩ := HS.out ne
   have ST := hI.out
   rw [row_drop il] at ST
   have p0 : (0 : Int) <= (i : Int) := by omega
   have p1 : (i : Int) < (n : Int) := by omega
   have p2 : (i : Int).toNat = i := by omega
   have p3 := Xl ((i : Int) + 1) (by omega)
   have p4 := Xl ((i : Int) + 2) (by omega)
   have BD := Xk (fun q => qt q wr hb.out)
   have CA := Xk (fun (W : World) (hB : Below w.heap.size w W) => qT (HS.out.below hB Xm) i il)
   have SA := Xk (fun W => Jh L[i] (HO.out _ (List.getElem_mem il)) W)
   clear hI ne
   by_cases l2 : i + 1 < n
   ·have il2 : i + 1 < L.length := by rw [<- HN.out]; exact l2
    have p5 : (i : Int) + 1 < (n : Int) := by omega
    have p6 : (0 : Int) <= (i : Int) + 1 := by omega
    have p7 : ((i : Int) + 1).toNat = i + 1 := by omega
    rw [dif_pos il2] at ST
    have CB := Xk (fun (W : World) (hB : Below w.heap.size w W) => qT (HS.out.below hB Xm) (i + 1) il2)
    have PA := Xk (fun W => ref_Pair L[i] L[i + 1] (HO.out _ (List.getElem_mem il)) (HO.out _ (List.getElem_mem il2)) W)
    generalize L[i] = a at *
    generalize L[i + 1] = b at *
    obtain ⟨ta, wa, fa, ba, aa⟩ := a
    obtain ⟨tb, wb, fb, bb, ab⟩ := b
    dsimp only at CA CB PA SA
    obtain ⟨P, hP⟩ : ∃ P, P = zJ ⟨ta, wa, fa, ba, aa⟩ ⟨tb, wb, fb, bb, ab⟩ := ⟨_, rfl⟩
    obtain ⟨Q, hQ⟩ : ∃ Q, Q = zH ⟨ta, wa, fa, ba, aa⟩ := ⟨_, rfl⟩
    rw [<- hP] at PA ST
    rw [<- hQ] at SA ST
    replace ST := Xk ST
    have x0 := fun q => (CA.out _ (BD.out q)).1
    have x1 := fun q => (CA.out _ (BD.out q)).2.1
    have x2 := fun q => (CA.out _ (BD.out q)).2.2.1
    have x3 := fun q => (CA.out _ (BD.out q)).2.2.2.1
    have x4 := fun q => (CA.out _ (BD.out q)).2.2.2.2
    have y0 := fun q => (CB.out _ (BD.out q)).1
    have y1 := fun q => (CB.out _ (BD.out q)).2.1
    have y2 := fun q => (CB.out _ (BD.out q)).2.2.1
    have y3 := fun q => (CB.out _ (BD.out q)).2.2.2.1
    have y4 := fun q => (CB.out _ (BD.out q)).2.2.2.2
    clear hP hQ CB
    go_wp2_with fail
    refine qB 15 (by kernel_rfl) (by kernel_rfl) ?_
    simp only [Xn, Xo, Xp, Xq]
    repeat (first | go_big_quiet_step (fail) | quiet_step (fail))
    refine wpQuiet_nil ?_
    intro _ hw'
    obtain ⟨nq, hw''⟩ := hw'
    subst hw''
    have hb := Xk (BD.out nq)
    have PA := Xk (PA.out (wr.drewN nq))
    clear x0 x1 x2 x3 x4 y0 y1 y2 y3 y4 BD
    generalize wr.drewN nq = V at *
    go_wp2_with fail
    refine PA.out.mono ?_; rintro e w1 ⟨rfl, h1⟩
    have hb := Xk (hb.out.trans (h1.mono hb.out.size))
    clear h1 PA
    cases P with
    | true =>
     have NX := Xk (show rowR (L.drop (i + 2)) = R by rw [<- ST.out, if_pos rfl])
     go_wp2_with fail
     go_roundw
     case rel => exact ⟨i + 2, by omega, by go_num, NX, hb⟩
     case measure => simp [intOf]; omega
    | false =>
     obtain ⟨x0, x1, x2, x3, x4⟩ := CA.out w1 hb.out
     have SA := Xk (SA.out w1)
     clear CA
     go_wp2_with fail
     refine SA.out.mono ?_; rintro e w2 ⟨rfl, h2⟩
     have hb := Xk (hb.out.trans (h2.mono hb.out.size))
     clear h2 SA x0 x1 x2 x3 x4
     cases Q with
     | true =>
      have NX := Xk (show rowR (L.drop (i + 1)) = R by rw [<- ST.out, if_neg (by simp), if_pos rfl])
      go_wp2_with fail
      go_roundw
      case rel => exact ⟨i + 1, by omega, by go_num, NX, hb⟩
      case measure => simp [intOf]; omega
     | false =>
      have FR := Xk (show R = false by rw [<- ST.out, if_neg (by simp), if_neg (by simp)])
      go_wp2_with fail
      go_ret
      exact ⟨by rw [FR.out]; rfl, hb.out⟩
   ·have p5 := decide_eq_false (show ¬ (i : Int) + 1 < (n : Int) by omega)
    rw [dif_neg (by rw [<- HN.out]; exact l2)] at ST
    have ei : i + 1 = n := by omega
    generalize L[i] = a at *
    obtain ⟨ta, wa, fa, ba, aa⟩ := a
    dsimp only at CA SA
    obtain ⟨Q, hQ⟩ : ∃ Q, Q = zH ⟨ta, wa, fa, ba, aa⟩ := ⟨_, rfl⟩
    rw [<- hQ] at SA ST
    replace ST := Xk ST
    have HEI := Xk ei
    clear hQ ei
    go_wp2_with fail
    refine qB 15 (by kernel_rfl) (by kernel_rfl) ?_
    simp only [Xn, Xo, Xp, Xq]
    repeat (first | go_big_quiet_step (fail) | quiet_step (fail))
    refine wpQuiet_nil ?_
    intro _ hw'
    obtain ⟨nq, hw''⟩ := hw'
    subst hw''
    have hb := Xk (BD.out nq)
    clear BD
    generalize wr.drewN nq = V at *
    obtain ⟨x0, x1, x2, x3, x4⟩ := CA.out V hb.out
    have SA := Xk (SA.out V)
    clear CA
    go_wp2_with fail
    refine SA.out.mono ?_; rintro e w2 ⟨rfl, h2⟩
    have hb := Xk (hb.out.trans (h2.mono hb.out.size))
    clear h2 SA x0 x1 x2 x3 x4
    cases Q with
    | true =>
     have NX := Xk (show rowR (L.drop (i + 1)) = R by rw [<- ST.out, HEI.out, HN.out, List.drop_length]; rfl)
     go_wp2_with fail
     go_roundw
     case rel => exact ⟨i + 1, by omega, by go_num, NX, hb⟩
     case measure => simp [intOf]; omega
    | false =>
     have FR := Xk (show R = false from ST.out.symm)
     go_wp2_with fail
     go_ret
     exact ⟨by rw [FR.out]; rfl, hb.out⟩
  ·have e : i = n := by omega
   subst e
   have p5 : ¬ (i : Int) < (i : Int) := by omega
   have FR := Xk (show R = true by rw [<- hI.out, HN.out, List.drop_length]; rfl)
   go_wp2_with fail
   go_ret
   exact ⟨by rw [FR.out]; rfl, hb.out⟩
set_option maxHeartbeats 8000000 in
set_option maxRecDepth 100000 in
theorem ZD (a b : Int) (w : World) : Calls Tryz.prog 35 #[.int .i64 a, .int .i64 b] w fun e w' => e = .returned (.bool (qo a b)) /\ w' = w := by
 have SE : Hid (qo a b = (decide (0 <= a) && decide (a <= 4096) && decide (0 <= b) && decide (b <= 4096) && decide (a * b <= 1048576))) := Xk rfl
 generalize qo a b = D at *
 by_cases c1 : 0 <= a
 ·by_cases c2 : a <= 4096
  ·by_cases c3 : 0 <= b
   ·by_cases c4 : b <= 4096
    ·have m1 : a * b <= 4096 * 4096 := Int.mul_le_mul c2 c4 c3 (by decide)
     have m0 : 0 <= a * b := Int.mul_nonneg c1 c3
     have wm := Xl (a * b) (by omega)
     by_cases c5 : a * b <= 1048576
     ·have R := Xk (show D = true by rw [SE.out]; simp [c1, c2, c3, c4, c5])
      go_enter Tryz.func35, Tryz.ntmps35
      go_wp2_with fail
      go_ret
      exact ⟨by rw [R.out]; rfl, rfl⟩
     ·have R := Xk (show D = false by rw [SE.out]; simp [c5])
      go_enter Tryz.func35, Tryz.ntmps35
      go_wp2_with fail
      go_ret
      exact ⟨by rw [R.out]; rfl, rfl⟩
    ·have R := Xk (show D = false by rw [SE.out]; simp [c4])
     go_enter Tryz.func35, Tryz.ntmps35
     go_wp2_with fail
     go_ret
     exact ⟨by rw [R.out]; rfl, rfl⟩
   ·have R := Xk (show D = false by rw [SE.out]; simp [c3])
    go_enter Tryz.func35, Tryz.ntmps35
    go_wp2_with fail
    go_ret
    exact ⟨by rw [R.out]; rfl, rfl⟩
  ·have R := Xk (show D = false by rw [SE.out]; simp [c2])
   go_enter Tryz.func35, Tryz.ntmps35
   go_wp2_with fail
   go_ret
   exact ⟨by rw [R.out]; rfl, rfl⟩
 ·have R := Xk (show D = false by rw [SE.out]; simp [c1])
  go_enter Tryz.func35, Tryz.ntmps35
  go_wp2_with fail
  go_ret
  exact ⟨by rw [R.out]; rfl, rfl⟩
end
end
end Go.Proofs.YtifoijbpbigaaaaGreatDoor
