/- A tape's numbers are read. -/
import Derived.Test.YtmaofighbpnbiaaGreatDoorYTpY
namespace Go.Proofs.YtmaofighbpnbiaaGreatDoor
open Go Go.RowKit Go.Sort
set_option linter.unusedVariables false
set_option linter.unusedSimpArgs false
section
def NumRd (W : World) (g : Nat) (A : Option Addr) (c : Nat) (D : List Int) (r : RdT) (most : Int) (T : TypeId) (e : Ending) (w' : World) : Prop := e = .returned (.int .i64 (numR D r most).1) ∧ RdS w' g A c D (numR D r most).2 T ∧ Mv [g] W w'
def NumSo (W : World) (g : Nat) (A : Option Addr) (c : Nat) (D : List Int) (p0 : Nat) (most : Int) (P : Int × RdT) (T : TypeId) (i n : Nat) (r : RdT) (wr : World) : Prop := RdS wr g A c D r T ∧ Mv [g] W wr ∧ numRF D p0 most (6 - i) i n r = P
theorem sl_noU (n c : Nat) (w : World) : (binOp .eql 27 (.slice none n c) (.slice none 0 0)).run Tryz.prog w = .ok (.bool true) w := by kernel_rfl
theorem sl_soU (ad : Addr) (n c : Nat) (w : World) : (binOp .eql 27 (.slice (some ad) n c) (.slice none 0 0)).run Tryz.prog w = .ok (.bool false) w := by kernel_rfl
theorem sl_noN (n c : Nat) (w : World) : (binOp .neq 27 (.slice none n c) (.slice none 0 0)).run Tryz.prog w = .ok (.bool false) w := by kernel_rfl
theorem sl_soN (ad : Addr) (n c : Nat) (w : World) : (binOp .neq 27 (.slice (some ad) n c) (.slice none 0 0)).run Tryz.prog w = .ok (.bool true) w := by kernel_rfl
theorem takeV_bad {A : Option Addr} {D : List Int} {r : RdT} {n : Nat} (h : r.code ≠ 0 ∨ D.length < r.at_ + n) : takeV A D r n = .slice none 0 0 := by unfold takeV; rw [if_pos h]
theorem takeV_one {W : World} {g : Nat} {A : Option Addr} {c : Nat} {D : List Int} {r : RdT} {T : TypeId} (h : RdS W g A c D r T) (c0 : r.code = 0) (lt : r.at_ < D.length) : ∃ ad, A = some ad ∧ takeV A D r 1 = .slice (some (ad.add r.at_)) 1 1 ∧ ad.block < g ∧ W.cell? (ad.add r.at_) = some (.int .u8 (D.getD r.at_ 0)) := by
 obtain ⟨ad, e, hb, hc⟩ := sees_byte h.dat.sees r.at_ lt
 refine ⟨ad, e, ?_, hb, hc⟩
 have nf : ¬ (r.code ≠ 0 ∨ D.length < r.at_ + 1) := by
  rintro (q | q)
  ·exact q c0
  ·omega
 have e : A = some ad := e
 subst e
 unfold takeV
 rw [if_neg nf]
 rfl
theorem numRF_step {D : List Int} {p0 : Nat} {most : Int} (k i : Nat) (n : Int) {r : RdT} (c0 : r.code = 0) (lt : r.at_ < D.length) : numRF D p0 most (k + 1) i n r = if D.getD r.at_ 0 < 128 then
   (if (D.getD r.at_ 0 = 0 ∧ 0 < i) ∨ most < n + D.getD r.at_ 0 * 128 ^ i then (0, failR ⟨r.at_ + 1, r.code, r.spot⟩ 300 p0) else (n + D.getD r.at_ 0 * 128 ^ i, ⟨r.at_ + 1, r.code, r.spot⟩))
  else numRF D p0 most k (i + 1) (n + D.getD r.at_ 0 % 128 * 128 ^ i) ⟨r.at_ + 1, r.code, r.spot⟩ := by
 rw [numRF, if_neg (by simp [c0]), if_neg (by omega)]
set_option maxHeartbeats 8000000 in
set_option maxRecDepth 100000 in
theorem t_numR (g : Nat) (A : Option Addr) (c : Nat) (D : List Int) (r : RdT) (most : Int) (W : World) (R : RdS W g A c D r 88) : Calls Tryz.prog 52 #[.pointer (some ⟨g, 0, none⟩), .int .i64 most] W (NumRd W g A c D r most 88) := by
 obtain ⟨P, hP⟩ : ∃ P, P = numR D r most := ⟨_, rfl⟩
 have ST : Hid (NumSo W g A c D r.at_ most P 88 0 0 r W) := Lib.hid ⟨R, Mv.refl _ W, hP.symm⟩
 have EN : Hid (∀ (x : Int) (r' : RdT) (w' : World), P = (x, r') → RdS w' g A c D r' 88 → Mv [g] W w' → NumRd W g A c D r most 88 (.returned (.int .i64 x)) w') := Lib.hid (fun x r' w' e a b => by
  have e2 : numR D r most = (x, r') := hP.symm.trans e
  exact ⟨by rw [e2], by rw [e2]; exact a, b⟩)
 have k1 : W.cell? ⟨g, 1, none⟩ = some (.int .i64 (r.at_ : Int)) := R.box.c 1 _ rfl
 have hp0 : r.at_ ≤ D.length := R.at_
 have hD : D.length ≤ 140737488355328 := by have := R.dat.cap; have := R.dat.sz; dsimp only at *; omega
 have RB := Lib.hid R.dat.rng
 generalize NumRd W g A c D r most 88 = post at *
 generalize r.at_ = p0 at *
 clear hP R
 go_enter Tryz.func52, Tryz.ntmps52
 go_wp2_with fail
 go_loopw [6, 7] (fun s6 s7 wr => ∃ (i n s : Nat) (r' : RdT), i ≤ 6 ∧ s6 = .int .i64 (n : Int) ∧ s7 = .int .i64 (s : Int) ∧ s = 7 * i ∧ n < 128 ^ i ∧ Hid (NumSo W g A c D p0 most P 88 i n r' wr)) (fun _ s7 _ => 42 - (intOf s7).toNat)
 case atStart => exact ⟨0, 0, 0, r, by decide, rfl, rfl, rfl, by decide, ST⟩
 case round =>
  obtain ⟨i, n, s, r', hi, rfl, rfl, hs, hn, hr⟩ := hrel
  clear ST
  have j0 := hr.out.1.box
  by_cases lt : i < 6
  ·obtain ⟨k, hk⟩ : ∃ k, 6 - i = k + 1 := ⟨5 - i, by omega⟩
   have TK := Lib.hid (tp_take g A c D r' 1 wr hr.out.1 (by decide))
   have q6 : (s : Int) < 42 := by omega
   have HS := Lib.hid hs
   by_cases bad : r'.code ≠ 0 ∨ D.length < r'.at_ + 1
   ·have e0 := takeV_bad (A := A) (n := 1) bad
    have EP : Hid (P = (0, (takeR D r' 1).2)) := Lib.hid (by
     have z := hr.out.2.2
     rw [hk, numRF] at z
     by_cases c0 : r'.code = 0
     ·rw [if_neg (by simp [c0]), if_pos (by omega)] at z
      rw [← z, takeR_short c0 (by omega)]
      unfold failR
      rw [if_pos c0]
     ·rw [if_pos c0] at z
      rw [← z, takeR_no 1 c0])
    have HE0 := Lib.hid e0
    have HM := Lib.hid hr.out.2.1
    clear hr e0 j0 bad hs hk
    go_wp2_with fail
    refine TK.out.mono ?_; rintro e w1 ⟨rfl, R1, M1⟩
    rw [HE0.out]
    have EN := Lib.hid (EN.out _ _ _ EP.out R1 (HM.out.then M1))
    have sn := sl_noU 0 0 w1
    clear TK R1 M1
    go_wp2_with fail
    exact EN.out
   ·obtain ⟨c0, l2⟩ : r'.code = 0 ∧ r'.at_ < D.length := by
     refine ⟨?_, ?_⟩
     ·by_cases q : r'.code = 0
      ·exact q
      ·exact absurd (Or.inl q) bad
     ·by_cases q : D.length < r'.at_ + 1
      ·exact absurd (Or.inr q) bad
      ·omega
    obtain ⟨ad, hA, tv, hb, _⟩ := takeV_one hr.out.1 c0 l2
    have HTV := Lib.hid tv
    have HCELL := Lib.hid (fun (w1 : World) (h : RdS w1 g A c D (takeR D r' 1).2 88) => show w1.cell? (ad.add r'.at_) = some (.int .u8 (D.getD r'.at_ 0)) by
     obtain ⟨a2, e2, _, hc⟩ := sees_byte h.dat.sees r'.at_ l2
     have e2 : A = some a2 := e2
     rw [hA] at e2
     cases e2
     exact hc)
    have ZZ := Lib.hid ((hk ▸ hr.out.2.2 : numRF D p0 most (k + 1) i n r' = P).symm.trans (numRF_step k i n c0 l2))
    have bd := byt_getD RB.out r'.at_
    generalize D.getD r'.at_ 0 = dd at *
    obtain ⟨d, rfl⟩ : ∃ d : Nat, dd = (d : Int) := ⟨dd.toNat, by omega⟩
    generalize ad.add r'.at_ = aa at *
    have TR := Lib.hid (show (takeR D r' 1).2 = ⟨r'.at_ + 1, 0, r'.spot⟩ by have := takeR_some (n := 1) c0 (show r'.at_ + 1 ≤ D.length by omega); rw [show ((1 : Nat) : Int) = 1 from rfl] at this; rw [this])
    have HM := Lib.hid hr.out.2.1
    obtain ⟨m, hm⟩ : ∃ m, m = d % 128 := ⟨_, rfl⟩
    obtain ⟨q, hq⟩ : ∃ q, q = m * 128 ^ i := ⟨_, rfl⟩
    obtain ⟨n2, hn2⟩ : ∃ n2, n2 = n + q := ⟨_, rfl⟩
    have ml : m < 128 := by omega
    have a1 : bits .and .u8 (d : Int) 127 = (m : Int) := by rw [hm]; exact and_127 d (by omega)
    have p2 : ((2 : Int) ^ s) = ((128 ^ i : Nat) : Int) := by rw [hs, Int.pow_mul]; simp
    have p5 : 128 ^ i ≤ 128 ^ 5 := Nat.pow_le_pow_right (by decide) (by omega)
    have p6 : 128 ^ 5 = 34359738368 := by decide
    have ql : q ≤ 127 * 34359738368 := by rw [hq]; exact Nat.mul_le_mul (by omega) (by omega)
    have a3 : IntKind.i64.wrap ((m : Int) * 2 ^ s) = (q : Int) := by
     have e : (m : Int) * 2 ^ s = (q : Int) := by rw [p2, hq]; simp
     rw [e]
     exact IntWalk.i64_in _ (by omega)
    have a4 : bits .or .i64 (n : Int) (q : Int) = (n2 : Int) := by rw [hn2, hq]; exact or_digit n m i hn ml (by omega)
    have n2l : n2 < 128 ^ (i + 1) := by
     have : 128 ^ (i + 1) = 128 ^ i * 128 := Nat.pow_succ 128 i
     have : m * 128 ^ i ≤ 127 * 128 ^ i := Nat.mul_le_mul_right _ (by omega)
     omega
    have NV := Lib.hid (show (n2 : Int) = (n : Int) + (d : Int) % 128 * 128 ^ i by rw [hn2, hq, hm]; simp)
    have HMM := Lib.hid hm
    have HN2 := Lib.hid n2l
    clear hr tv hb bad hA j0 hm hq hn2 p2 p5 p6 n2l hs
    go_wp2_with fail
    refine TK.out.mono ?_; rintro e w1 ⟨rfl, R1, M1⟩
    rw [HTV.out]
    have ss := sl_soU aa 1 1 w1
    have cc := HCELL.out w1 R1
    have R1 := Lib.hid R1
    have M1 := Lib.hid (HM.out.then M1)
    clear TK HM HCELL HTV
    go_upto_region 8 with fail
    by_cases big : 128 ≤ d
    ·have b1 : ¬ (d : Int) < 128 := by omega
     have wk : IntKind.i64.wrap ((s : Int) + 7) = (s : Int) + 7 := IntWalk.i64_in _ (by omega)
     have NX : Hid (NumSo W g A c D p0 most P 88 (i + 1) n2 ⟨r'.at_ + 1, r'.code, r'.spot⟩ w1) := Lib.hid (by
      have z := ZZ.out
      rw [if_neg b1, ← NV.out] at z
      refine ⟨?_, M1.out, ?_⟩
      ·have t : RdS w1 g A c D (takeR D r' 1).2 88 := R1.out
       rw [TR.out] at t
       rw [c0]
       exact t
      ·rw [show 6 - (i + 1) = k by omega]; exact z.symm)
     clear ZZ NV TR
     go_wp2_with fail
     go_roundw
     case rel => exact ⟨i + 1, n2, s + 7, _, by omega, rfl, by go_num, by have := HS.out; omega, HN2.out, NX⟩
     case measure => simp [intOf]; omega
    ·have b1 : (d : Int) < 128 := by omega
     have RR : RdS w1 g A c D ⟨r'.at_ + 1, r'.code, r'.spot⟩ 88 := by
      have t : RdS w1 g A c D (takeR D r' 1).2 88 := R1.out
      rw [TR.out] at t
      rw [c0]
      exact t
     have FL := Lib.hid (t_fail g A D.length c _ 300 p0 w1 RR.box)
     have ZY := ZZ.out
     have md : (d : Int) % 128 = (d : Int) := by omega
     have NV2 := NV.out
     rw [md] at NV2
     rw [if_pos b1, ← NV2] at ZY
     have HRR := Lib.hid RR
     by_cases bd2 : ((d : Int) = 0 ∧ 0 < i) ∨ most < (n2 : Int)
     ·rw [if_pos bd2] at ZY
      have EP := Lib.hid ZY
      have HN : Hid (∀ w', Bk w' g (rdV A D.length c (failR ⟨r'.at_ + 1, r'.code, r'.spot⟩ 300 p0)) 88 → Mv [g] w1 w' → post (.returned (.int .i64 0)) w') := Lib.hid (fun w' b m => EN.out _ _ _ EP.out (HRR.out.nx m b (by rw [fail_at]; exact HRR.out.at_)) (M1.out.then m))
      clear ZZ NV TR ZY RR NV2 md EN HRR R1 M1 HMM HN2 hk
      by_cases d0 : d = 0
      ·subst d0
       have a1 : bits .and .u8 0 127 = (m : Int) := a1
       have cc : w1.cell? aa = some (.int .u8 0) := cc
       by_cases i0 : 0 < i
       ·have sp : (0 : Int) < (s : Int) := by have := HS.out; omega
        clear bd2
        go_wp2_with fail
        refine FL.out.mono ?_; rintro e w2 ⟨rfl, b2, m2⟩
        have EN := Lib.hid (HN.out _ b2 m2)
        clear FL b2 m2 HN
        go_wp2_with fail
        exact EN.out
       ·have m0 : most < (n2 : Int) := by
         rcases bd2 with h | h
         ·exact absurd h.2 i0
         ·exact h
        have sp : ¬ (0 : Int) < (s : Int) := by have := HS.out; omega
        clear bd2
        go_wp2_with fail
        refine FL.out.mono ?_; rintro e w2 ⟨rfl, b2, m2⟩
        have EN := Lib.hid (HN.out _ b2 m2)
        clear FL b2 m2 HN
        go_wp2_with fail
        exact EN.out
      ·have m0 : most < (n2 : Int) := by
        rcases bd2 with h | h
        ·exact absurd h.1 (by omega)
        ·exact h
       have d1 : ¬ (d : Int) = 0 := by omega
       clear bd2
       go_wp2_with fail
       refine FL.out.mono ?_; rintro e w2 ⟨rfl, b2, m2⟩
       have EN := Lib.hid (HN.out _ b2 m2)
       clear FL b2 m2 HN
       go_wp2_with fail
       exact EN.out
     ·rw [if_neg bd2] at ZY
      have EY : Hid (post (.returned (.int .i64 (n2 : Int))) w1) := Lib.hid (EN.out _ _ _ ZY RR M1.out)
      have m0 : ¬ most < (n2 : Int) := fun z => bd2 (Or.inr z)
      have d2 : (d : Int) = 0 → ¬ 0 < i := fun a b => bd2 (Or.inl ⟨a, b⟩)
      clear ZZ NV TR ZY RR NV2 md EN HRR R1 M1 HMM HN2 hk FL bd2
      by_cases d0 : d = 0
      ·have sp : ¬ (0 : Int) < (s : Int) := by have := HS.out; have := d2 (by omega); omega
       subst d0
       have a1 : bits .and .u8 0 127 = (m : Int) := a1
       have cc : w1.cell? aa = some (.int .u8 0) := cc
       clear d2
       go_wp2_with fail
       exact EY.out
      ·have d1 : ¬ (d : Int) = 0 := by omega
       clear d2
       go_wp2_with fail
       exact EY.out
  ·have e6 : i = 6 := by omega
   subst e6
   have q6 : ¬ (s : Int) < 42 := by omega
   have EP : Hid (P = (0, failR r' 300 p0)) := Lib.hid (by have z := hr.out.2.2; rw [numRF] at z; exact z.symm)
   have FL := Lib.hid (t_fail g A D.length c r' 300 p0 wr j0)
   have HN : Hid (∀ w', Bk w' g (rdV A D.length c (failR r' 300 p0)) 88 → Mv [g] wr w' → post (.returned (.int .i64 0)) w') := Lib.hid (fun w' b m => EN.out _ _ _ EP.out (hr.out.1.nx m b (by rw [fail_at]; exact hr.out.1.at_)) (hr.out.2.1.then m))
   clear hr j0 hs hn
   go_wp2_with fail
   refine FL.out.mono ?_; rintro e w1 ⟨rfl, b1, m1⟩
   have EN := Lib.hid (HN.out _ b1 m1)
   clear FL b1 m1 HN
   go_wp2_with fail
   exact EN.out
end
end Go.Proofs.YtmaofighbpnbiaaGreatDoor
