/- What lies below tapes (kept of earlier texts: TqD, TqF, TrK, TrL). -/
import Derived.Test.YtmaofighbpnbiaaGreatDoorTaEF
set_option linter.unusedVariables false
set_option linter.unusedSimpArgs false
namespace Go.Proofs.YtmaofighbpnbiaaGreatDoor
section
open Go Go.RowKit Go.Sort
section
def x8 (W : World) (g : Nat) (A : Option Addr) (c : Nat) (D : List Int) (r : RdT) (most : Int) (T : TypeId) (e : Ending) (w' : World) : Prop := e = .returned (.int .i64 (numR D r most).1) /\ RdS w' g A c D (numR D r most).2 T /\ Mv [g] W w'
def kM (W : World) (g : Nat) (A : Option Addr) (c : Nat) (D : List Int) (p0 : Nat) (most : Int) (P : Int × RdT) (T : TypeId) (i n : Nat) (r : RdT) (wr : World) : Prop := RdS wr g A c D r T /\ Mv [g] W wr /\ z7 D p0 most (6 - i) i n r = P
theorem sl_noU (n c : Nat) (w : World) : (binOp .eql 27 (.slice none n c) (.slice none 0 0)).run Tryz.prog w = .ok (.bool true) w := by kernel_rfl
theorem sl_soU (ad : Addr) (n c : Nat) (w : World) : (binOp .eql 27 (.slice (some ad) n c) (.slice none 0 0)).run Tryz.prog w = .ok (.bool false) w := by kernel_rfl
theorem sl_noN (n c : Nat) (w : World) : (binOp .neq 27 (.slice none n c) (.slice none 0 0)).run Tryz.prog w = .ok (.bool false) w := by kernel_rfl
theorem QU (ad : Addr) (n c : Nat) (w : World) : (binOp .neq 27 (.slice (some ad) n c) (.slice none 0 0)).run Tryz.prog w = .ok (.bool true) w := by kernel_rfl
theorem KR {A : Option Addr} {D : List Int} {r : RdT} {n : Nat} (h : r.code ≠ 0 \/ D.length < r.at_ + n) : qq A D r n = .slice none 0 0 := by unfold qq; rw [if_pos h]
theorem KY {W : World} {g : Nat} {A : Option Addr} {c : Nat} {D : List Int} {r : RdT} {T : TypeId} (h : RdS W g A c D r T) (c0 : r.code = 0) (lt : r.at_ < D.length) : ∃ ad, A = some ad /\ qq A D r 1 = .slice (some (ad.add r.at_)) 1 1 /\ ad.block < g /\ W.cell? (ad.add r.at_) = some (.int .u8 (D.getD r.at_ 0)) := by
 obtain ⟨ad, e, hb, hc⟩ := xJ h.dat.sees r.at_ lt
 refine ⟨ad, e, ?_, hb, hc⟩
 have nf : ¬ (r.code ≠ 0 \/ D.length < r.at_ + 1) := by
  rintro (q | q)
  ·exact q c0
  ·omega
 have e : A = some ad := e
 subst e
 unfold qq
 rw [if_neg nf]
 rfl
theorem Va {D : List Int} {p0 : Nat} {most : Int} (k i : Nat) (n : Int) {r : RdT} (c0 : r.code = 0) (lt : r.at_ < D.length) : z7 D p0 most (k + 1) i n r = if D.getD r.at_ 0 < 128 then
   (if (D.getD r.at_ 0 = 0 /\ 0 < i) \/ most < n + D.getD r.at_ 0 * 128 ^ i then (0, zr ⟨r.at_ + 1, r.code, r.spot⟩ 300 p0) else (n + D.getD r.at_ 0 * 128 ^ i, ⟨r.at_ + 1, r.code, r.spot⟩))
  else z7 D p0 most k (i + 1) (n + D.getD r.at_ 0 % 128 * 128 ^ i) ⟨r.at_ + 1, r.code, r.spot⟩ := by
 rw [z7, if_neg (by simp [c0]), if_neg (by omega)]
set_option maxHeartbeats 8000000 in
set_option maxRecDepth 100000 in
theorem vC (g : Nat) (A : Option Addr) (c : Nat) (D : List Int) (r : RdT) (most : Int) (W : World) (R : RdS W g A c D r 88) : Calls Tryz.prog 52 #[.pointer (some ⟨g, 0, none⟩), .int .i64 most] W (x8 W g A c D r most 88) := by
 obtain ⟨P, hP⟩ : ∃ P, P = numR D r most := ⟨_, rfl⟩
 have ST : Hid (kM W g A c D r.at_ most P 88 0 0 r W) := zdy ⟨R, Mv.refl _ W, hP.symm⟩
 have EN : Hid (∀ (x : Int) (r' : RdT) (w' : World), P = (x, r') -> RdS w' g A c D r' 88 -> Mv [g] W w' -> x8 W g A c D r most 88 (.returned (.int .i64 x)) w') := zdy (fun x r' w' e a b => by
  have e2 : numR D r most = (x, r') := hP.symm.trans e
  exact ⟨by rw [e2], by rw [e2]; exact a, b⟩)
 have k1 : W.cell? ⟨g, 1, none⟩ = some (.int .i64 (r.at_ : Int)) := R.box.c 1 _ rfl
 have hp0 : r.at_ <= D.length := R.at_
 have hD : D.length <= 140737488355328 := by have := R.dat.cap; have := R.dat.sz; dsimp only at *; omega
 have RB := zdy R.dat.rng
 generalize x8 W g A c D r most 88 = post at *
 generalize r.at_ = p0 at *
 clear hP R
 go_enter Tryz.func52, Tryz.ntmps52
 go_wp2_with fail
 go_loopw [6, 7] (fun s6 s7 wr => ∃ (i n s : Nat) (r' : RdT), i <= 6 /\ s6 = .int .i64 (n : Int) /\ s7 = .int .i64 (s : Int) /\ s = 7 * i /\ n < 128 ^ i /\ Hid (kM W g A c D p0 most P 88 i n r' wr)) (fun _ s7 _ => 42 - (intOf s7).toNat)
 case atStart => exact ⟨0, 0, 0, r, by decide, rfl, rfl, rfl, by decide, ST⟩
 case round =>
  obtain ⟨i, n, s, r', hi, rfl, rfl, hs, hn, hr⟩ := hrel
  clear ST
  have j0 := hr.out.1.box
  by_cases lt : i < 6
  ·obtain ⟨k, hk⟩ : ∃ k, 6 - i = k + 1 := ⟨5 - i, by omega⟩
   have TK := zdy (Zk g A c D r' 1 wr hr.out.1 (by decide))
   have q6 : (s : Int) < 42 := by omega
   have HS := zdy hs
   by_cases bad : r'.code ≠ 0 \/ D.length < r'.at_ + 1
   ·have e0 := KR (A := A) (n := 1) bad
    have EP : Hid (P = (0, (zo D r' 1).2)) := zdy (by
     have z := hr.out.2.2
     rw [hk, z7] at z
     by_cases c0 : r'.code = 0
     ·rw [if_neg (by simp [c0]), if_pos (by omega)] at z
      rw [<- z, vt c0 (by omega)]
      unfold zr
      rw [if_pos c0]
     ·rw [if_pos c0] at z
      rw [<- z, kK 1 c0])
    have HE0 := zdy e0
    have HM := zdy hr.out.2.1
    clear hr e0 j0 bad hs hk
    go_wp2_with fail
    refine TK.out.mono ?_; rintro e w1 ⟨rfl, R1, M1⟩
    rw [HE0.out]
    have EN := zdy (EN.out _ _ _ EP.out R1 (HM.out.then M1))
    have sn := sl_noU 0 0 w1
    clear TK R1 M1
    go_wp2_with fail
    exact EN.out
   ·obtain ⟨c0, l2⟩ : r'.code = 0 /\ r'.at_ < D.length := by
     refine ⟨?_, ?_⟩
     ·by_cases q : r'.code = 0
      ·exact q
      ·exact absurd (Or.inl q) bad
     ·by_cases q : D.length < r'.at_ + 1
      ·exact absurd (Or.inr q) bad
      ·omega
    obtain ⟨ad, hA, tv, hb, _⟩ := KY hr.out.1 c0 l2
    have HTV := zdy tv
    have HCELL := zdy (fun (w1 : World) (h : RdS w1 g A c D (zo D r' 1).2 88) => show w1.cell? (ad.add r'.at_) = some (.int .u8 (D.getD r'.at_ 0)) by
     obtain ⟨a2, e2, _, hc⟩ := xJ h.dat.sees r'.at_ l2
     have e2 : A = some a2 := e2
     rw [hA] at e2
     cases e2
     exact hc)
    have ZZ := zdy ((hk ▸ hr.out.2.2 : z7 D p0 most (k + 1) i n r' = P).symm.trans (Va k i n c0 l2))
    have bd := xW RB.out r'.at_
    generalize D.getD r'.at_ 0 = dd at *
    obtain ⟨d, rfl⟩ : ∃ d : Nat, dd = (d : Int) := ⟨dd.toNat, by omega⟩
    generalize ad.add r'.at_ = aa at *
    have TR := zdy (show (zo D r' 1).2 = ⟨r'.at_ + 1, 0, r'.spot⟩ by have := jO (n := 1) c0 (show r'.at_ + 1 <= D.length by omega); rw [show ((1 : Nat) : Int) = 1 from rfl] at this; rw [this])
    have HM := zdy hr.out.2.1
    obtain ⟨m, hm⟩ : ∃ m, m = d % 128 := ⟨_, rfl⟩
    obtain ⟨q, hq⟩ : ∃ q, q = m * 128 ^ i := ⟨_, rfl⟩
    obtain ⟨n2, hn2⟩ : ∃ n2, n2 = n + q := ⟨_, rfl⟩
    have ml : m < 128 := by omega
    have a1 : bits .and .u8 (d : Int) 127 = (m : Int) := by rw [hm]; exact and_127 d (by omega)
    have p2 : ((2 : Int) ^ s) = ((128 ^ i : Nat) : Int) := by rw [hs, Int.pow_mul]; simp
    have p5 : 128 ^ i <= 128 ^ 5 := Nat.pow_le_pow_right (by decide) (by omega)
    have p6 : 128 ^ 5 = 34359738368 := by decide
    have ql : q <= 127 * 34359738368 := by rw [hq]; exact Nat.mul_le_mul (by omega) (by omega)
    have a3 : IntKind.i64.wrap ((m : Int) * 2 ^ s) = (q : Int) := by
     have e : (m : Int) * 2 ^ s = (q : Int) := by rw [p2, hq]; simp
     rw [e]
     exact zdz _ (by omega)
    have a4 : bits .or .i64 (n : Int) (q : Int) = (n2 : Int) := by rw [hn2, hq]; exact or_digit n m i hn ml (by omega)
    have n2l : n2 < 128 ^ (i + 1) := by
     have : 128 ^ (i + 1) = 128 ^ i * 128 := Nat.pow_succ 128 i
     have : m * 128 ^ i <= 127 * 128 ^ i := Nat.mul_le_mul_right _ (by omega)
     omega
    have NV := zdy (show (n2 : Int) = (n : Int) + (d : Int) % 128 * 128 ^ i by rw [hn2, hq, hm]; simp)
    have HMM := zdy hm
    have HN2 := zdy n2l
    clear hr tv hb bad hA j0 hm hq hn2 p2 p5 p6 n2l hs
    go_wp2_with fail
    refine TK.out.mono ?_; rintro e w1 ⟨rfl, R1, M1⟩
    rw [HTV.out]
    have ss := sl_soU aa 1 1 w1
    have cc := HCELL.out w1 R1
    have R1 := zdy R1
    have M1 := zdy (HM.out.then M1)
    clear TK HM HCELL HTV
    go_upto_region 8 with fail
    by_cases big : 128 <= d
    ·have b1 : ¬ (d : Int) < 128 := by omega
     have wk := zdz ((s : Int) + 7) (by omega)
     have NX : Hid (kM W g A c D p0 most P 88 (i + 1) n2 ⟨r'.at_ + 1, r'.code, r'.spot⟩ w1) := zdy (by
      have z := ZZ.out
      rw [if_neg b1, <- NV.out] at z
      refine ⟨?_, M1.out, ?_⟩
      ·have t : RdS w1 g A c D (zo D r' 1).2 88 := R1.out
       rw [TR.out] at t
       rw [c0]
       exact t
      ·rw [show 6 - (i + 1) = k by omega]; exact z.symm)
     clear ZZ NV TR
     go_wp2_with fail
     go_roundw
     case rel => exact ⟨i + 1, n2, s + 7, _, by omega, rfl, by go_num, by have := HS.out; omega, HN2.out, NX⟩
     case measure => simp [intOf]; omega
    ·have b1 : (d : Int) < 128 := by omega
     have RR : RdS w1 g A c D ⟨r'.at_ + 1, r'.code, r'.spot⟩ 88 := by
      have t : RdS w1 g A c D (zo D r' 1).2 88 := R1.out
      rw [TR.out] at t
      rw [c0]
      exact t
     have FL := zdy (xX g A D.length c _ 300 p0 w1 RR.box)
     have ZY := ZZ.out
     have md : (d : Int) % 128 = (d : Int) := by omega
     have NV2 := NV.out
     rw [md] at NV2
     rw [if_pos b1, <- NV2] at ZY
     have HRR := zdy RR
     by_cases bd2 : ((d : Int) = 0 /\ 0 < i) \/ most < (n2 : Int)
     ·rw [if_pos bd2] at ZY
      have EP := zdy ZY
      have HN : Hid (∀ w', Bk w' g (rdV A D.length c (zr ⟨r'.at_ + 1, r'.code, r'.spot⟩ 300 p0)) 88 -> Mv [g] w1 w' -> post (.returned (.int .i64 0)) w') := zdy (fun w' b m => EN.out _ _ _ EP.out (HRR.out.nx m b (by rw [zM]; exact HRR.out.at_)) (M1.out.then m))
      clear ZZ NV TR ZY RR NV2 md EN HRR R1 M1 HMM HN2 hk
      by_cases d0 : d = 0
      ·subst d0
       have a1 : bits .and .u8 0 127 = (m : Int) := a1
       have cc : w1.cell? aa = some (.int .u8 0) := cc
       by_cases i0 : 0 < i
       ·have sp : (0 : Int) < (s : Int) := by have := HS.out; omega
        clear bd2
        go_wp2_with fail
        refine FL.out.mono ?_; rintro e w2 ⟨rfl, b2, m2⟩
        have EN := zdy (HN.out _ b2 m2)
        clear FL b2 m2 HN
        go_wp2_with fail
        exact EN.out
       ·have m0 : most < (n2 : Int) := by
         rcases bd2 with h | h
         ·exact absurd h.2 i0
         ·exact h
        have sp : ¬ (0 : Int) < (s : Int) := by have := HS.out; omega
        clear bd2
        go_wp2_with fail
        refine FL.out.mono ?_; rintro e w2 ⟨rfl, b2, m2⟩
        have EN := zdy (HN.out _ b2 m2)
        clear FL b2 m2 HN
        go_wp2_with fail
        exact EN.out
      ·have m0 : most < (n2 : Int) := by
        rcases bd2 with h | h
        ·exact absurd h.1 (by omega)
        ·exact h
       have d1 : ¬ (d : Int) = 0 := by omega
       clear bd2
       go_wp2_with fail
       refine FL.out.mono ?_; rintro e w2 ⟨rfl, b2, m2⟩
       have EN := zdy (HN.out _ b2 m2)
       clear FL b2 m2 HN
       go_wp2_with fail
       exact EN.out
     ·rw [if_neg bd2] at ZY
      have EY : Hid (post (.returned (.int .i64 (n2 : Int))) w1) := zdy (EN.out _ _ _ ZY RR M1.out)
      have m0 : ¬ most < (n2 : Int) := fun z => bd2 (Or.inr z)
      have d2 : (d : Int) = 0 -> ¬ 0 < i := fun a b => bd2 (Or.inl ⟨a, b⟩)
      clear ZZ NV TR ZY RR NV2 md EN HRR R1 M1 HMM HN2 hk FL bd2
      by_cases d0 : d = 0
      ·have sp : ¬ (0 : Int) < (s : Int) := by have := HS.out; have := d2 (by omega); omega
       subst d0
       have a1 : bits .and .u8 0 127 = (m : Int) := a1
       have cc : w1.cell? aa = some (.int .u8 0) := cc
       clear d2
       go_wp2_with fail
       exact EY.out
      ·have d1 : ¬ (d : Int) = 0 := by omega
       clear d2
       go_wp2_with fail
       exact EY.out
  ·have e6 : i = 6 := by omega
   subst e6
   have q6 : ¬ (s : Int) < 42 := by omega
   have EP : Hid (P = (0, zr r' 300 p0)) := zdy (by have z := hr.out.2.2; rw [z7] at z; exact z.symm)
   have FL := zdy (xX g A D.length c r' 300 p0 wr j0)
   have HN : Hid (∀ w', Bk w' g (rdV A D.length c (zr r' 300 p0)) 88 -> Mv [g] wr w' -> post (.returned (.int .i64 0)) w') := zdy (fun w' b m => EN.out _ _ _ EP.out (hr.out.1.nx m b (by rw [zM]; exact hr.out.1.at_)) (hr.out.2.1.then m))
   clear hr j0 hs hn
   go_wp2_with fail
   refine FL.out.mono ?_; rintro e w1 ⟨rfl, b1, m1⟩
   have EN := zdy (HN.out _ b1 m1)
   clear FL b1 m1 HN
   go_wp2_with fail
   exact EN.out
end
end
section
open Go Go.RowKit Go.Sort
section
theorem kN {fn : Func} {p t u s : Tmp} {ty : TypeId} (h : fn.results = #[.cell p ty, .tmp t, .tmp u, .tmp s]) (tmps : Array Value) (P : Program) (w : World) :
  (results fn tmps).run P w = ((asAddr (tmps.getD p undef)).run P w).andThen fun a w₁ => ((loadVar ty a).run P w₁).andThen fun v w₂ => .ok (.tuple #[v, tmps.getD t undef, tmps.getD u undef, tmps.getD s undef]) w₂ := by
 simp only [results, h]
 simp [Sem.run_bind, Result.andThen]
def CpyR (W w' : World) (v : Value) (l : List Frm) : Prop := Below W.heap.size W w' /\ ((v = .slice none 0 0 /\ l = []) \/ ∃ g L', W.heap.size <= g /\ w'.ownsRow W.heap.size 47 2 v (cpF g 0 0 L').length ((cpF g 0 0 L').flatMap frV) /\ BRow w' g (zt L').length (zt L') /\ frms L' = l /\ ∀ x ∈ L', Byt x.b.bs /\ x.b.bs.length <= 1048576 /\ 0 <= x.at_ /\ x.at_ <= 1099511627776)
def DecR (W : World) (D : List Int) (e : Ending) (w' : World) : Prop := ∃ v, e = .returned (.tuple #[.agg #[.int .i64 (decT D).w, .int .i64 (decT D).h], v, .int .i64 (decT D).code, .int .i64 (decT D).spot]) /\ CpyR W w' v (decT D).l
def lit3 (i : Nat) : Int := if i = 0 then 70 else if i = 1 then 77 else 1
def stR (D : List Int) : Nat -> RdT
 | 0 => ⟨0, 0, 0⟩
 | i + 1 => jt D (stR D i) i (lit3 i)
theorem Vb {D : List Int} {r : RdT} (i c : Int) (h : (zo D r 1).1 = []) : jt D r i c = (zo D r 1).2 := by unfold jt; rw [if_neg (fun z => z.1 h)]
theorem Vc {D : List Int} {r : RdT} (i c : Int) (c0 : r.code = 0) (lt : r.at_ < D.length) : jt D r i c = if D.getD r.at_ 0 ≠ c then zr ⟨r.at_ + 1, 0, r.spot⟩ 300 i else ⟨r.at_ + 1, 0, r.spot⟩ := by
 have e := jO (n := 1) c0 (show r.at_ + 1 <= D.length by omega)
 rw [show ((1 : Nat) : Int) = 1 from rfl, Kq lt] at e
 unfold jt
 rw [e]
 by_cases z : D.getD r.at_ 0 = c
 ·rw [if_neg (fun q => q.2 z), if_neg (fun q => q z)]
 ·rw [if_pos ⟨by simp, z⟩, if_pos z]
theorem Zq {A : Option Addr} {c : Nat} {D : List Int} {r : RdT} {n : Nat} (h : r.code ≠ 0 \/ D.length < r.at_ + n) (ha : r.at_ <= D.length) : qq A D r n = .slice none 0 0 /\ (zo D r n).1 = [] := by
 refine ⟨KR h, ?_⟩
 by_cases z : r.code = 0
 ·have lt : D.length < r.at_ + n := by
   rcases h with h | h
   ·exact absurd z h
   ·exact h
  rw [vt z (by omega)]
 ·rw [kK _ z]
def vD (Q2 : World) (g : Nat) (A : Option Addr) (c : Nat) (D : List Int) (i : Nat) (wr : World) : Prop := RdS wr g A c D (stR D i) 88 /\ Mv [g] Q2 wr
theorem take_dat {W : World} {g : Nat} {A : Option Addr} {c : Nat} {D : List Int} {r : RdT} {T : TypeId} (h : RdS W g A c D r T) (n : Nat) : ∃ (XA : Option Addr), qq A D r n = .slice XA (zo D r n).1.length (zo D r n).1.length /\ (zo D r n).1.length <= D.length /\ ∀ w', ByteD w' g ⟨A, c, D⟩ -> ByteD w' g ⟨XA, (zo D r n).1.length, (zo D r n).1⟩ := by
 by_cases bad : r.code ≠ 0 \/ D.length < r.at_ + n
 ·obtain ⟨e1, e2⟩ := Zq (A := A) (c := c) bad h.at_
  rw [e1, e2]
  exact ⟨none, rfl, Nat.zero_le _, fun w' _ => ⟨fun _ => rfl, zdA, Nat.zero_le _, fun ne => absurd rfl ne, fun b m => by cases m⟩⟩
 ·have c0 : r.code = 0 := by
   by_cases q : r.code = 0
   ·exact q
   ·exact absurd (Or.inl q) bad
  have l2 : r.at_ + n <= D.length := by
   by_cases q : D.length < r.at_ + n
   ·exact absurd (Or.inr q) bad
   ·omega
  have e := jO c0 l2
  have ln := Zj l2
  rw [e]
  dsimp only
  rw [ln]
  unfold qq
  rw [if_neg bad]
  cases A with
  | none =>
   have z := h.dat.nil rfl
   have z2 := h.dat.cap
   dsimp only at z z2
   obtain rfl : n = 0 := by omega
   exact ⟨none, rfl, Nat.zero_le _, fun w' _ => ⟨fun _ => rfl, by simp, by simp, fun ne => absurd (by simp) ne, fun b m => by simp at m⟩⟩
  | some ad =>
   refine ⟨_, rfl, by omega, fun w' q => ⟨(fun z => by cases z), by rw [ln]; exact zdA, by have := q.sz; dsimp only at this ⊢; rw [ln]; omega, fun ne => ?_, Kr q.rng r.at_ n⟩⟩
   have n0 : n ≠ 0 := fun z => ne (by rw [z]; simp)
   have dn : D.map (Value.int .u8) ≠ [] := fun z => by
    have := congrArg List.length z
    simp at this
    subst this
    simp at l2
    omega
   obtain ⟨a2, e2, hb, hc⟩ := q.sees dn
   cases e2
   refine ⟨_, rfl, by rw [if_neg n0, z8]; exact hb, fun j u hj => ?_⟩
   rw [if_neg n0, jD]
   refine hc _ _ ?_
   have lt := (List.getElem?_eq_some_iff.1 hj).1
   simp only [List.length_map, ln] at lt
   rw [List.getElem?_map] at hj ⊢
   rw [List.getElem?_take, if_pos lt, List.getElem?_drop] at hj
   exact hj
theorem Ve {r : RdT} {D : List Int} {n : Nat} (bad : ¬ (r.code ≠ 0 \/ D.length < r.at_ + n)) : r.code = 0 /\ r.at_ + n <= D.length := by
 refine ⟨?_, ?_⟩
 ·by_cases q : r.code = 0
  ·exact q
  ·exact absurd (Or.inl q) bad
 ·by_cases q : D.length < r.at_ + n
  ·exact absurd (Or.inr q) bad
  ·omega
theorem Vf {W : World} {g : Nat} {A : Option Addr} {c : Nat} {D : List Int} {r : RdT} {T : TypeId} {n : Nat} (h : RdS W g A c D r T) (c0 : r.code = 0) (lt : r.at_ + (n + 1) <= D.length) : ∃ ad, A = some ad /\ qq A D r (n + 1) = .slice (some (ad.add r.at_)) (n + 1) (n + 1) /\ ad.block < g /\ ∀ w', ByteD w' g ⟨A, c, D⟩ -> ∀ j, r.at_ + j < D.length -> w'.cell? (ad.add (r.at_ + j)) = some (.int .u8 (D.getD (r.at_ + j) 0)) := by
 obtain ⟨ad, e, hb, hc⟩ := xJ h.dat.sees r.at_ (show r.at_ < D.length by omega)
 have nf : ¬ (r.code ≠ 0 \/ D.length < r.at_ + (n + 1)) := by
  rintro (q | q)
  ·exact q c0
  ·omega
 have e : A = some ad := e
 subst e
 refine ⟨ad, rfl, ?_, hb, fun w' q j hj => ?_⟩
 ·unfold qq
  rw [if_neg nf]
  dsimp only
  rw [if_neg (Nat.succ_ne_zero n)]
 ·obtain ⟨a2, e2, _, hc⟩ := xJ q.sees (r.at_ + j) hj
  cases e2
  exact hc
theorem Vg {D : List Int} {a : Nat} (h : a + 4 <= D.length) : (D.drop a).take 4 = [D.getD a 0, D.getD (a + 1) 0, D.getD (a + 2) 0, D.getD (a + 3) 0] := by
 have g : ∀ j, j < D.length -> D.drop j = D.getD j 0 :: D.drop (j + 1) := fun j hj => by
  rw [List.drop_eq_getElem_cons hj, List.getD_eq_getElem?_getD, List.getElem?_eq_getElem hj]
  rfl
 rw [g a (by omega), g (a + 1) (by omega), g (a + 1 + 1) (by omega), g (a + 1 + 1 + 1) (by omega)]
 rfl
theorem Vh {W : World} {B : Nat} {A : Option Addr} {D : List Int} (S : Sees W B A (D.map (.int .u8))) (n : Nat) : Sees W B A ((D.take n).map (.int .u8)) := fun ne => by
 obtain ⟨ad, e, hb, hc⟩ := S (fun z => ne (by have := congrArg (List.take n) z; rw [List.map_take] at *; rw [z]; simp))
 refine ⟨ad, e, hb, fun j u hj => hc j u ?_⟩
 rw [List.map_take, List.getElem?_take] at hj
 split at hj
 ·exact hj
 ·cases hj
structure FrsSo (Q2 : World) (lo g : Nat) (A : Option Addr) (c : Nat) (D : List Int) (F : List Frm × RdT) (k last : Nat) (r : RdT) (L : List FA) (v : Value) (wr : World) : Prop where
 rd : RdS wr g A c D r 88
 mv : Mv [g] Q2 wr
 own : wr.ownsRow lo 47 2 v L.length (L.flatMap frV)
 q2 : Q2.heap.size <= lo
 gl : g < Q2.heap.size
 le : lo <= wr.heap.size
 ok : ∀ x ∈ L, ByteD wr g x.b /\ x.b.bs.length <= 1048576 /\ 0 <= x.at_ /\ x.at_ <= 1099511627776
 eq : frms L ++ (frsR D k last r).1 = F.1 /\ (frsR D k last r).2 = F.2
theorem Zr {T0 T : TypeId} {w w' : World} {LO sz g : Nat} {v : Value} {n : Nat} {xs vs : List Value} (h : w.ownsRow LO T0 sz v n xs) (m : Mv [g] w w') (K : Bk w g vs T) (ne : T ≠ T0) : w'.ownsRow LO T0 sz v n xs := Zp h (fun k cu e => m.blk k (Array.getElem?_eq_some_iff.1 e).1 (fun z => by
 rw [List.mem_singleton] at z
 subst z
 unfold Bk at K
 rw [K] at e
 cases e
 exact ne rfl))
theorem FrsSo.next {Q2 wr w7 u w8 : World} {lo g : Nat} {A : Option Addr} {c : Nat} {D : List Int} {F : List Frm × RdT} {k last p1 q1 : Nat} {r r5 r6 r7 : RdT} {L : List FA} {v v' : Value} {XA : Option Addr} {tl : List Int} (h : FrsSo Q2 lo g A c D F (k + 1) last r L v wr) (c0 : r.code = 0)
  (hp : numR D r (1099511627776 - (last : Int)) = ((p1 : Int), r5)) (hq : numR D r5 1099511627776 = ((q1 : Int), r6)) (ht : zo D r6 q1 = (tl, r7)) (R7 : RdS w7 g A c D r7 88) (m7 : Mv [g] wr w7) (bd : ByteD w7 g ⟨XA, tl.length, tl⟩) (bl : tl.length <= 1048576) (pl : last + p1 <= 1099511627776)
  (hu : Below w7.heap.size w7 u) (hg : u.grownBy w8 v.ownBlock) (ho : w8.ownsRow lo 47 2 v' (L.length + 1) (L.flatMap frV ++ [.int .i64 ((last : Int) + (p1 : Int)), .slice XA tl.length tl.length])) :
  FrsSo Q2 lo g A c D F k (last + p1) r7 (L ++ [⟨((last + p1 : Nat) : Int), ⟨XA, tl.length, tl⟩⟩]) v' w8 := by
 have o7 := Zr h.own m7 h.rd.box (by decide)
 have ou := qc o7 hu
 have su : lo <= u.heap.size := Nat.le_trans h.le (Nat.le_trans m7.size hu.size)
 have fr : ∀ z, v.ownBlock = some z -> lo <= z := fun z e => (ou.lt z e).1
 have B8 : ∀ j, j < w7.heap.size -> j < lo -> w8.heap[j]? = w7.heap[j]? := fun j h1 h2 => (hg.block j (Nat.lt_of_lt_of_le h1 hu.size) (fun e => by have := fr j e.symm; omega)).trans (hu.block j h1)
 have b7 : Below lo w7 w8 := ⟨hg.os.trans hu.os, hg.tape.trans hu.tape, hg.output.trans hu.output, Nat.le_trans hu.size hg.size, fun j lt => B8 j (by have := h.le; have := m7.size; omega) lt⟩
 have gl2 := h.gl
 have ql := h.q2
 have m27 := h.mv.then m7
 have gw : g <= wr.heap.size := Nat.le_of_lt h.rd.box.lt
 refine ⟨⟨R7.box.of_eq (b7.block g (by omega)), R7.dat.below b7 (by omega), R7.at_⟩, ⟨b7.os.trans m27.os, b7.tape.trans m27.tape, b7.output.trans m27.output, Nat.le_trans m27.size b7.size, fun j hj hne => (b7.block j (by omega)).trans (m27.blk j hj hne)⟩, ?_, h.q2, h.gl, Nat.le_trans su hg.size, fun x m => ?_, ?_⟩
 ·rw [List.length_append, List.flatMap_append, Kz]
  rw [show ((last : Int) + (p1 : Int)) = ((last + p1 : Nat) : Int) by simp] at ho
  exact ho
 ·rcases List.mem_append.1 m with m | m
  ·obtain ⟨q1, q2⟩ := h.ok x m
   exact ⟨(q1.below (m7.under gw) zdA).below b7 (by omega), q2⟩
  ·rw [List.mem_singleton] at m
   subst m
   exact ⟨bd.below b7 (by omega), bl, by show (0 : Int) <= ((last + p1 : Nat) : Int); omega, by show ((last + p1 : Nat) : Int) <= _; omega⟩
 ·have e := h.eq
  rw [QQ k last c0, hp, hq] at e
  dsimp only at e
  rw [ht, show ((last : Int) + (p1 : Int)) = ((last + p1 : Nat) : Int) by simp] at e
  dsimp only at e
  refine ⟨?_, e.2⟩
  rw [<- e.1]
  unfold frms
  rw [List.map_append, List.append_assoc]
  rfl
theorem Vi {w : World} {lo n c : Nat} {A : Option Addr} {L : List FA} (h : w.ownsRow lo 47 2 (.slice A n c) L.length (L.flatMap frV)) (hl : L.length <= 1000000) (ok : ∀ x ∈ L, FrD w w.heap.size x) : FrsD w w.heap.size A c L := by
 refine ⟨fun e => ?_, ?_, by omega, fun ne => ?_, ok⟩
 ·rcases h.2 with ⟨z, _⟩ | ⟨g, cap, cur, z, _⟩
  ·cases z; rfl
  ·cases z; cases e
 ·rcases h.2 with ⟨z, y⟩ | ⟨g, cap, cur, z, _, _, y, _⟩
  ·omega
  ·cases z; exact y
 ·rcases h.2 with ⟨z, y⟩ | ⟨g, cap, cur, z, _, e, y, _⟩
  ·exact absurd (List.eq_nil_of_length_eq_zero (by rw [h.1, y])) ne
  ·cases z
   refine ⟨_, rfl, (Array.getElem?_eq_some_iff.1 e).1, fun j u hj => h.cells (g := g) rfl j u hj⟩
theorem Vj {w w' : World} {b lo n : Nat} {v : Value} {xs : List Value} (h : w.ownsRow lo 47 2 v n xs) (lt : b < lo) (far : ∀ j, j ≠ b -> w'.heap[j]? = w.heap[j]?) : w'.ownsRow lo 47 2 v n xs := by
 refine ⟨h.1, ?_⟩
 rcases h.2 with hn | ⟨g, cap, cur, rfl, hb, hg, rest⟩
 ·exact .inl hn
 ·exact .inr ⟨g, cap, cur, rfl, hb, (far g (by omega)).trans hg, rest⟩
theorem Vk (D : List Int) : stR D 3 = qL D := rfl
set_option maxHeartbeats 32000000 in
set_option maxRecDepth 100000 in
theorem QV (A : Option Addr) (c : Nat) (D : List Int) (B : Nat) (W : World) (BD : ByteD W B ⟨A, c, D⟩) (hB : B <= W.heap.size) : Calls Tryz.prog 20 #[.slice A D.length c] W (DecR W D) := by
  obtain ⟨i0, z0, hi0, hz0, hz1, hz2, hz3⟩ := infoF
  obtain ⟨Q0, hQ0⟩ : ∃ Q0, Q0 = W.alloc (.cells #[.int .i64 0, .int .i64 0] 23) := ⟨_, rfl⟩
  have B0 : Below W.heap.size W Q0 := by rw [hQ0]; exact (Below.refl _ W).alloc zdA _
  have K0 : Bk Q0 W.heap.size [.int .i64 0, .int .i64 0] 23 := by rw [hQ0]; exact Bk.new W _ _
  have sz0 : Q0.heap.size = W.heap.size + 1 := by rw [hQ0]; simp
  have H0 := zdy hQ0
  by_cases big : 1048576 < D.length
  · have big' : (1048576 : Int) < (D.length : Int) := by omega
    have e0 : decT D = ⟨0, 0, [], 3, 0⟩ := by unfold decT; rw [if_pos big]
    have k0 := K0.c 0 _ rfl
    have k1 := K0.c 1 _ rfl
    have f0 := K0.f 0
    have f1 := K0.f 1
    have EN : Hid (∀ w', Below W.heap.size W w' -> DecR W D (.returned (.tuple #[.agg #[.int .i64 0, .int .i64 0], .slice none 0 0, .int .i64 3, .int .i64 0])) w') := zdy (fun w' b => by
      refine ⟨.slice none 0 0, by rw [e0], b, Or.inl ⟨rfl, by rw [e0]⟩⟩)
    clear hQ0 e0 K0
    go_enter Tryz.func20, Tryz.ntmps20
    go_upto_region 1 with fail
    rw [<- H0.out]
    go_wp2_with fail
    refine bodyPost_ret (v := .tuple #[.agg #[.int .i64 0, .int .i64 0], .slice none 0 0, .int .i64 3, .int .i64 0]) (by rw [kN rfl]; go_simp) rfl ?_
    exact EN.out _ ((B0.setCell (p := ⟨W.heap.size, 0, none⟩) zdA _).setCell (p := ⟨W.heap.size, 1, none⟩) zdA _)
  · have big' : ¬ (1048576 : Int) < (D.length : Int) := by omega
    have dl : D.length <= 1048576 := by omega
    obtain ⟨g, hg⟩ : ∃ g, g = Q0.heap.size := ⟨_, rfl⟩
    obtain ⟨Q1, hQ1⟩ : ∃ Q1, Q1 = Q0.alloc (.cells #[.slice A D.length c, .int .i64 0, .int .i64 0, .int .i64 0] 88) := ⟨_, rfl⟩
    have B1 : Below Q0.heap.size Q0 Q1 := by rw [hQ1]; exact (Below.refl _ Q0).alloc zdA _
    have R1 : RdS Q1 g A c D ⟨0, 0, 0⟩ 88 := ⟨by rw [hQ1, hg]; exact Bk.new Q0 _ _, (BD.below (B0.trans (B1.mono B0.size)) hB).more (by rw [hg]; exact Nat.le_trans hB B0.size), Nat.zero_le _⟩
    obtain ⟨Q2, hQ2⟩ : ∃ Q2, Q2 = Q1.alloc (.cells #[.int .u8 70, .int .u8 77, .int .u8 1] 5) := ⟨_, rfl⟩
    have B2 : Below Q1.heap.size Q1 Q2 := by rw [hQ2]; exact (Below.refl _ Q1).alloc zdA _
    have LT : Bk Q2 Q1.heap.size [.int .u8 70, .int .u8 77, .int .u8 1] 5 := by rw [hQ2]; exact Bk.new Q1 _ _
    have R2 : RdS Q2 g A c D ⟨0, 0, 0⟩ 88 := R1.nx (Mv.below B2) (R1.box.of_eq (B2.block _ R1.box.lt)) (Nat.zero_le _)
    have g1 : g < Q1.heap.size := R1.box.lt
    have H1 := zdy hQ1
    have H2 := zdy hQ2
    have HLT := zdy LT
    have HR2 := zdy R2
    have HG := zdy (show Q0.heap.size = g /\ W.heap.size < g /\ Below W.heap.size W Q2 from ⟨hg.symm, by omega, (B0.trans (B1.mono B0.size)).trans (B2.mono (Nat.le_trans B0.size B1.size))⟩)
    have K2 := zdy (K0.of_eq ((B1.trans (B2.mono B1.size)).block _ K0.lt))
    have RNG := zdy BD.rng
    have HGL := zdy (Nat.lt_of_lt_of_le g1 B2.size)
    generalize hlb : Q1.heap.size = lb at *
    clear hQ0 hQ1 hQ2 B0 K0 B1 R1 B2 LT R2 sz0 big BD hg
    go_enter Tryz.func20, Tryz.ntmps20
    go_upto_region 1 with fail
    rw [<- H0.out]
    go_upto_region 4 with fail
    rw [<- H1.out, HG.out.1]
    go_upto_region 5 with fail
    rw [<- H2.out]
    have HH : Hid (vD Q2 g A c D 0 Q2) := zdy ⟨HR2.out, Mv.refl _ _⟩
    clear H0 H1 H2 hlb
    go_loopw [28] (fun s28 wr => ∃ (i : Nat), i <= 3 /\ s28 = .int .i64 (i : Int) /\ Hid (vD Q2 g A c D i wr)) (fun s28 _ => 3 - (intOf s28).toNat)
    case atStart => exact ⟨0, by decide, rfl, HH⟩
    case round =>
      obtain ⟨i, hi, rfl, he⟩ := hrel
      clear HH
      by_cases lt : i < 3
      · have q0 : (0 : Int) <= (i : Int) := by omega
        have q5 : (i : Int) < 3 := by omega
        have tn : (i : Int).toNat = i := by omega
        have wk := zdz ((i : Int) + 1) (by omega)
        have LB : Bk wr lb [.int .u8 70, .int .u8 77, .int .u8 1] 5 := HLT.out.of_eq (he.out.2.blk _ HLT.out.lt (by simp; omega))
        have cl : wr.cell? ⟨lb, i, none⟩ = some (.int .u8 (lit3 i)) := by
          obtain rfl | rfl | rfl : i = 0 \/ i = 1 \/ i = 2 := by omega
          · exact LB.c 0 _ rfl
          · exact LB.c 1 _ rfl
          · exact LB.c 2 _ rfl
        have TK := zdy (Zk g A c D (stR D i) 1 wr he.out.1 (by decide))
        have NS := zdy (show stR D (i + 1) = jt D (stR D i) i (lit3 i) from rfl)
        generalize lit3 i = l3 at *
        have HM := zdy he.out.2
        by_cases bad : (stR D i).code ≠ 0 \/ D.length < (stR D i).at_ + 1
        · have TN := zdy (Zq (A := A) (c := c) bad he.out.1.at_)
          have NX : Hid (∀ w1, TakR wr g A c D (stR D i) 1 88 (.returned (qq A D (stR D i) 1)) w1 -> vD Q2 g A c D (i + 1) w1) := zdy (fun w1 h => ⟨by rw [NS.out, Vb _ _ TN.out.2]; exact h.2.1, HM.out.then h.2.2⟩)
          clear LB he bad
          go_wp2_with fail
          refine TK.out.mono ?_; intro e w1 hT
          obtain rfl := hT.1
          have NX := zdy (NX.out w1 hT)
          rw [TN.out.1]
          have sn := sl_noN 0 0 w1
          clear TK hT TN
          go_wp2_with fail
          go_roundw
          case rel => exact ⟨i + 1, by omega, by go_num, NX⟩
          case measure => simp [intOf]; omega
        · obtain ⟨c0, l2⟩ : (stR D i).code = 0 /\ (stR D i).at_ < D.length := by
            refine ⟨?_, ?_⟩
            · by_cases q : (stR D i).code = 0
              · exact q
              · exact absurd (Or.inl q) bad
            · by_cases q : D.length < (stR D i).at_ + 1
              · exact absurd (Or.inr q) bad
              · omega
          obtain ⟨ad, hA, tv, hb, _⟩ := KY he.out.1 c0 l2
          have HTV := zdy tv
          have HCELL := zdy (fun (w1 : World) (h : RdS w1 g A c D (zo D (stR D i) 1).2 88) => show w1.cell? (ad.add (stR D i).at_) = some (.int .u8 (D.getD (stR D i).at_ 0)) by
            obtain ⟨a2, e2, _, hc⟩ := xJ h.dat.sees (stR D i).at_ l2
            have e2 : A = some a2 := e2
            rw [hA] at e2
            cases e2
            exact hc)
          have TR := zdy (show (zo D (stR D i) 1).2 = ⟨(stR D i).at_ + 1, 0, (stR D i).spot⟩ by have := jO (n := 1) c0 (show (stR D i).at_ + 1 <= D.length by omega); rw [show ((1 : Nat) : Int) = 1 from rfl] at this; rw [this])
          have ZZ := zdy (NS.out.trans (Vc (i : Int) l3 c0 l2))
          have L1 := zdy (show (stR D i).at_ + 1 <= D.length by omega)
          generalize ad.add (stR D i).at_ = aa at *
          generalize D.getD (stR D i).at_ 0 = dd at *
          generalize stR D i = ri at *
          clear LB he bad hA tv hb c0 l2
          by_cases ne : dd = l3
          · subst ne
            have NX : Hid (∀ w1, RdS w1 g A c D (zo D ri 1).2 88 -> Mv [g] wr w1 -> vD Q2 g A c D (i + 1) w1) := zdy (fun w1 a b => ⟨by rw [ZZ.out, if_neg (fun q => q rfl), <- TR.out]; exact a, HM.out.then b⟩)
            go_wp2_with fail
            refine TK.out.mono ?_; rintro e w1 ⟨rfl, R1, M1⟩
            rw [HTV.out]
            have ss := QU aa 1 1 w1
            have cc := HCELL.out w1 R1
            have NX := zdy (NX.out w1 R1 M1)
            clear TK R1 M1 HCELL HTV HM TR
            go_wp2_with fail
            go_roundw
            case rel => exact ⟨i + 1, by omega, by go_num, NX⟩
            case measure => simp [intOf]; omega
          · have NX : Hid (∀ w1 w2, RdS w1 g A c D (zo D ri 1).2 88 -> Mv [g] wr w1 -> Bk w2 g (rdV A D.length c (zr ⟨ri.at_ + 1, 0, ri.spot⟩ 300 i)) 88 -> Mv [g] w1 w2 -> vD Q2 g A c D (i + 1) w2) := zdy (fun w1 w2 a b b2 m2 => ⟨by rw [ZZ.out, if_pos ne]; exact a.nx m2 b2 (by rw [zM]; exact L1.out), (HM.out.then b).then m2⟩)
            have FL := zdy (fun (w1 : World) (a : RdS w1 g A c D (zo D ri 1).2 88) => xX g A D.length c ⟨ri.at_ + 1, 0, ri.spot⟩ 300 i w1 (by rw [<- TR.out]; exact a.box))
            go_wp2_with fail
            refine TK.out.mono ?_; rintro e w1 ⟨rfl, R1, M1⟩
            rw [HTV.out]
            have ss := QU aa 1 1 w1
            have cc := HCELL.out w1 R1
            have NX := zdy (NX.out w1 · R1 M1)
            have FL := zdy (FL.out w1 R1)
            clear TK R1 M1 HCELL HTV HM TR
            go_wp2_with fail
            refine FL.out.mono ?_; rintro e w2 ⟨rfl, b2, m2⟩
            have NX := zdy (NX.out w2 b2 m2)
            clear FL b2 m2
            go_wp2_with fail
            go_roundw
            case rel => exact ⟨i + 1, by omega, by go_num, NX⟩
            case measure => simp [intOf]; omega
      · have e3 : i = 3 := by omega
        subst e3
        have q5 : ¬ (3 : Int) < 3 := by omega
        obtain ⟨r0, hr0⟩ : ∃ r0, r0 = stR D 3 := ⟨_, rfl⟩
        have S0 := zdy (show RdS wr g A c D r0 88 /\ Mv [g] Q2 wr by rw [hr0]; exact he.out)
        have N1 := zdy (vC g A c D r0 4096 wr S0.out.1)
        have PR1 := zdy (jN RNG.out r0 (most := 4096) (by decide))
        have HR0 := zdy hr0
        clear he hr0
        go_wp2_with fail
        refine N1.out.mono ?_; rintro e w1 ⟨rfl, R1, M1⟩
        have S1 := zdy (And.intro R1 (S0.out.2.then M1))
        obtain ⟨wn, hwn⟩ : ∃ wn : Nat, (numR D r0 4096).1 = (wn : Int) := ⟨(numR D r0 4096).1.toNat, by have := PR1.out; omega⟩
        obtain ⟨r1, hr1⟩ : ∃ r1, (numR D r0 4096).2 = r1 := ⟨_, rfl⟩
        have wl : wn <= 4096 := by have := PR1.out; omega
        rw [hwn]
        rw [hr1] at S1
        have E1 := zdy (And.intro hwn hr1)
        have a1 : w1.cell? ⟨g, 1, none⟩ = some (.int .i64 (r1.at_ : Int)) := S1.out.1.box.c 1 _ rfl
        have N2 := zdy (vC g A c D r1 4096 w1 S1.out.1)
        have PR2 := zdy (jN RNG.out r1 (most := 4096) (by decide))
        clear N1 PR1 R1 M1 S0 hwn hr1
        go_wp2_with fail
        refine N2.out.mono ?_; rintro e w2 ⟨rfl, R2, M2⟩
        have S2 := zdy (And.intro R2 (S1.out.2.then M2))
        obtain ⟨hn, hhn⟩ : ∃ hn : Nat, (numR D r1 4096).1 = (hn : Int) := ⟨(numR D r1 4096).1.toNat, by have := PR2.out; omega⟩
        obtain ⟨r2, hr2⟩ : ∃ r2, (numR D r1 4096).2 = r2 := ⟨_, rfl⟩
        have hl : hn <= 4096 := by have := PR2.out; omega
        rw [hhn]
        rw [hr2] at S2
        have E2 := zdy (And.intro hhn hr2)
        obtain ⟨r3, hr3⟩ : ∃ r3, r3 = jA r2 r1.at_ wn hn := ⟨_, rfl⟩
        have E3 := zdy hr3
        obtain ⟨P, hP⟩ : ∃ P : Nat, (wn : Int) * (hn : Int) = (P : Int) := ⟨wn * hn, by simp⟩
        have pb : P <= 4096 * 4096 := by have : wn * hn <= 4096 * 4096 := Nat.mul_le_mul wl hl; have e : ((wn * hn : Nat) : Int) = (P : Int) := by rw [<- hP]; simp
                                         omega
        have wP : IntKind.i64.wrap ((wn : Int) * (hn : Int)) = (P : Int) := by rw [hP]; exact zdz _ (by omega)
        have HP := zdy hP
        clear N2 PR2 R2 M2 S1 hhn hr2 hr3 hP a1
        go_upto_if 59 with fail
        go_cut [] from 56 to 62 (fun wx => Hid (RdS wx g A c D r3 88 /\ Mv [g] Q2 wx))
        case first =>
          by_cases big2 : 1048576 < P
          · have b2 : (1048576 : Int) < (P : Int) := by omega
            have FL := zdy (xX g A D.length c r2 300 r1.at_ w2 S2.out.1.box)
            have NX : Hid (∀ w3, Bk w3 g (rdV A D.length c (zr r2 300 r1.at_)) 88 -> Mv [g] w2 w3 -> RdS w3 g A c D r3 88 /\ Mv [g] Q2 w3) := zdy (fun w3 b m => by
              have e : r3 = zr r2 300 r1.at_ := by rw [E3.out]; unfold jA; rw [if_pos (by rw [HP.out]; exact b2)]
              rw [e]
              exact ⟨S2.out.1.nx m b (by rw [zM]; exact S2.out.1.at_), S2.out.2.then m⟩)
            clear big2
            go_wp2_with fail
            refine FL.out.mono ?_; rintro e w3 ⟨rfl, b3, m3⟩
            have NX := zdy (NX.out w3 b3 m3)
            clear FL b3 m3
            go_wp2_with fail
            go_meet
            exact NX
          · have b2 : ¬ (1048576 : Int) < (P : Int) := by omega
            have NX : Hid (RdS w2 g A c D r3 88 /\ Mv [g] Q2 w2) := zdy (by
              have e : r3 = r2 := by rw [E3.out]; unfold jA; rw [if_neg (by rw [HP.out]; exact b2)]
              rw [e]
              exact S2.out)
            clear big2
            go_wp2_with fail
            go_meet
            exact NX
        case rest =>
          obtain ⟨w3, hw3⟩ : ∃ w3, w3 = wc := ⟨_, rfl⟩
          rw [<- hw3] at hcut ⊢
          have S3 := zdy hcut.out
          clear hw3 hcut S2 HP wP pb
          have N3 := zdy (vC g A c D r3 16384 w3 S3.out.1)
          have PR3 := zdy (jN RNG.out r3 (most := 16384) (by decide))
          go_wp2_with fail
          refine N3.out.mono ?_; rintro e w4 ⟨rfl, R4, M4⟩
          have S4 := zdy (And.intro R4 (S3.out.2.then M4))
          obtain ⟨kn, hkn⟩ : ∃ kn : Nat, (numR D r3 16384).1 = (kn : Int) := ⟨(numR D r3 16384).1.toNat, by have := PR3.out; omega⟩
          obtain ⟨r4, hr4⟩ : ∃ r4, (numR D r3 16384).2 = r4 := ⟨_, rfl⟩
          have kl : kn <= 16384 := by have := PR3.out; omega
          rw [hkn]
          rw [hr4] at S4
          have E4 := zdy (And.intro hkn hr4)
          obtain ⟨F, hF⟩ : ∃ F, F = frsR D kn 0 r4 := ⟨_, rfl⟩
          have EF := zdy hF
          have FS : Hid (FrsSo Q2 w4.heap.size g A c D F kn 0 r4 [] (.slice none 0 0) w4) := zdy ⟨S4.out.1, S4.out.2, ⟨rfl, Or.inl ⟨rfl, rfl⟩⟩, S4.out.2.size, HGL.out, zdA, (fun x m => by cases m), by rw [hF]; exact ⟨rfl, rfl⟩⟩
          obtain ⟨lo, hlo⟩ : ∃ lo, lo = w4.heap.size := ⟨_, rfl⟩
          rw [<- hlo] at FS
          clear N3 PR3 R4 M4 S3 hkn hr4 hF S4 hlo
          go_wp2_with fail
          go_loopw [13, 14, 15] (fun s13 s14 s15 wr => ∃ (k last ll : Nat) (r : RdT) (L : List FA) (A' : Option Addr) (c' : Nat), k + ll <= 16384 /\ ll = L.length /\ s13 = .int .i64 (k : Int) /\ s15 = .int .i64 (last : Int) /\ s14 = .slice A' ll c' /\ last <= 1099511627776 /\ Hid (FrsSo Q2 lo g A c D F k last r L (.slice A' ll c') wr)) (fun s13 _ _ _ => (intOf s13).toNat)
          case atStart => exact ⟨kn, 0, 0, r4, [], none, 0, by omega, rfl, rfl, rfl, rfl, by omega, FS⟩
          case round =>
            obtain ⟨k, last, ll, r, L, A', c', hk, hll, rfl, rfl, rfl, lb, he⟩ := hrel
            clear FS
            have HLL := zdy hll
            clear hll
            have j2 := he.out.rd.box.c 2 _ rfl
            by_cases go : 0 < k /\ r.code = 0
            · obtain ⟨k0, rc⟩ := go
              obtain ⟨k', rfl⟩ : ∃ k', k = k' + 1 := ⟨k - 1, by omega⟩
              obtain ⟨kk, hkk⟩ : ∃ kk, kk = k' + 1 := ⟨_, rfl⟩
              rw [<- hkk] at hk
              have q5 : (0 : Int) < (kk : Int) := by omega
              rw [rc] at j2
              have wk : IntKind.i64.wrap ((kk : Int) - 1) = (k' : Int) := by rw [zdz _ (by omega)]; omega
              have wl := zdz (1099511627776 - (last : Int)) (by omega)
              have N5 := zdy (vC g A c D r (1099511627776 - (last : Int)) wr he.out.rd)
              have PR5 := jN RNG.out r (most := 1099511627776 - (last : Int)) (by omega)
              obtain ⟨p1, hp1⟩ : ∃ p1 : Nat, (numR D r (1099511627776 - (last : Int))).1 = (p1 : Int) := ⟨(numR D r (1099511627776 - (last : Int))).1.toNat, by omega⟩
              obtain ⟨r5, hr5⟩ : ∃ r5, (numR D r (1099511627776 - (last : Int))).2 = r5 := ⟨_, rfl⟩
              have pl : last + p1 <= 1099511627776 := by omega
              have E5 := zdy (show numR D r (1099511627776 - (last : Int)) = ((p1 : Int), r5) by rw [<- hp1, <- hr5])
              have wp := zdz ((last : Int) + (p1 : Int)) (by omega)
              have HKK := zdy hkk
              have RC := zdy rc
              clear PR5 hp1 hr5 hkk rc k0
              rw [show ((k' + 1 : Nat) : Int) = (kk : Int) by rw [HKK.out]]
              go_wp2_with fail
              refine N5.out.mono ?_; rintro e w5 ⟨rfl, R5, M5⟩
              rw [E5.out] at R5 ⊢
              dsimp only at R5 ⊢
              have S5 := zdy R5
              have HM5 := zdy M5
              have N6 := zdy (vC g A c D r5 1099511627776 w5 R5)
              have PR6 := jN RNG.out r5 (most := 1099511627776) (by decide)
              obtain ⟨q1, hq1⟩ : ∃ q1 : Nat, (numR D r5 1099511627776).1 = (q1 : Int) := ⟨(numR D r5 1099511627776).1.toNat, by omega⟩
              obtain ⟨r6, hr6⟩ : ∃ r6, (numR D r5 1099511627776).2 = r6 := ⟨_, rfl⟩
              have E6 := zdy (show numR D r5 1099511627776 = ((q1 : Int), r6) by rw [<- hq1, <- hr6])
              have ql : q1 <= 1099511627776 := by omega
              clear N5 R5 M5 PR6 hq1 hr6
              go_wp2_with fail
              refine N6.out.mono ?_; rintro e w6 ⟨rfl, R6, M6⟩
              rw [E6.out] at R6 ⊢
              dsimp only at R6 ⊢
              obtain ⟨XA, tv, tle, tdat⟩ := take_dat R6 q1
              obtain ⟨tl, htl⟩ : ∃ tl, (zo D r6 q1).1 = tl := ⟨_, rfl⟩
              obtain ⟨r7, hr7⟩ : ∃ r7, (zo D r6 q1).2 = r7 := ⟨_, rfl⟩
              have E7 := zdy (show zo D r6 q1 = (tl, r7) by rw [<- htl, <- hr7])
              rw [htl] at tv tle tdat
              have T7 := Zk g A c D r6 q1 w6 R6 ql
              have TV := zdy tv
              have TD := zdy tdat
              have HM6 := zdy (HM5.out.then M6)
              have T7 := zdy T7
              have HTL := zdy tle
              clear N6 R6 M6 htl hr7 tv tle tdat HM5 S5
              go_wp2_with fail
              refine T7.out.mono ?_; intro e w7 hT
              obtain rfl := hT.1
              rw [TV.out]
              have S7 := zdy (show RdS w7 g A c D r7 88 by have := hT.2.1; rw [E7.out] at this; exact this)
              have HM7 := zdy (HM6.out.then hT.2.2)
              have ow := zdy (qc (Zr he.out.own HM7.out he.out.rd.box (by decide)) ((Below.refl _ w7).alloc zdA (.cells #[.int .i64 ((last : Int) + (p1 : Int)), .slice XA tl.length tl.length] 47)))
              rw [<- HLL.out] at ow
              have NX : Hid (∀ (w8 : World) (v' : Value), w8.ownsRow lo 47 2 v' (ll + 1) (L.flatMap frV ++ [.int .i64 ((last : Int) + (p1 : Int)), .slice XA tl.length tl.length]) -> (w7.alloc (.cells #[.int .i64 ((last : Int) + (p1 : Int)), .slice XA tl.length tl.length] 47)).grownBy w8 (Value.slice A' ll c').ownBlock -> ∃ A4 c4 l4 L4, Hid (l4 = L4.length /\ l4 = ll + 1) /\ v' = .slice A4 l4 c4 /\ FrsSo Q2 lo g A c D F k' (last + p1) r7 L4 (.slice A4 l4 c4) w8) := zdy (fun w8 v' ho hg => by
                have N := FrsSo.next he.out RC.out E5.out E6.out E7.out S7.out HM7.out (TD.out w7 S7.out.dat) (Nat.le_trans HTL.out dl) pl ((Below.refl _ w7).alloc zdA _) hg (by rw [<- HLL.out]; exact ho)
                obtain ⟨A4, c4, e⟩ := xq N.own
                have e4 := xa N.own e
                rw [e4] at N
                exact ⟨A4, c4, _, _, zdy ⟨rfl, by rw [List.length_append, <- HLL.out]; rfl⟩, e4, N⟩)
              generalize hm : tl.length = m at *
              have H1 : Hid (∀ u ∈ [Value.int .i64 ((last : Int) + (p1 : Int)), .slice XA m m], u.oneCell' = true) := zdy (by intro u hu; simp at hu; rcases hu with rfl | rfl <;> rfl)
              have H2 : Hid (ll + 1 <= maxLen) := zdy (by unfold maxLen; omega)
              have H3 : Hid ((ll + 1) * 32 <= 140737488355328) := zdy (by omega)
              have H4 : Hid (lo <= (w7.alloc (.cells #[.int .i64 ((last : Int) + (p1 : Int)), .slice XA m m] 47)).heap.size) := zdy (by have := he.out.le; have := HM7.out.size; simp; omega)
              have NW := zdy (qT w7 [.int .i64 ((last : Int) + (p1 : Int)), .slice XA m m] 47)
              clear T7 hT TV TD HM6 HM7 S7 HTL hm he
              go_wp2_with (at_builtin; refine wpList_append_own _ rfl (.tmp 82) (.tmp 89) 24 rfl lo 47 i0 z0 2 32 Tryz.underlying24 hi0 hz0 hz1 hz2 hz3 (by decide) (.slice A' ll c') ll _ rfl ow.out ⟨w7.heap.size, 0, none⟩ 1 1 _ rfl rfl NW.out H1.out H2.out H3.out H4.out ?_; intro v' w8 hown3 hg3 _; obtain ⟨A4, c4, l4, L4, hl4, rfl, P4⟩ := NX.out w8 v' hown3 hg3; have P4 := zdy P4; clear hown3 hg3 NX ow NW)
              go_roundw
              case rel => exact ⟨k', last + p1, l4, r7, L4, A4, c4, by have := hl4.out.2; have := HKK.out; omega, hl4.out.1, by go_num, by go_num, rfl, pl, P4⟩
              case measure => simp [intOf]; have := HKK.out; omega
            · have EQ : Hid (F = (frms L, r)) := zdy (by
                have e := he.out.eq
                have z : frsR D k last r = ([], r) := by
                  by_cases k0 : k = 0
                  · subst k0; rfl
                  · exact QP k last (fun z => go ⟨by omega, z⟩)
                rw [z] at e
                dsimp only at e
                rw [List.append_nil] at e
                obtain ⟨f1, f2⟩ := F
                dsimp only at e
                rw [e.1, e.2])
              go_upto_region 19 with fail
              go_cut [73] from 65 to 73 (fun s73 wx => s73 = .bool false /\ wx = wr)
              case first =>
                by_cases k0 : k = 0
                · subst k0
                  clear he EQ go
                  go_wp2_with fail
                  go_meet
                  exact ⟨rfl, rfl⟩
                · have q5 : (0 : Int) < (k : Int) := by omega
                  have c0 : ¬ r.code = 0 := fun z => go ⟨by omega, z⟩
                  have c1 : (r.code == 0) = false := by simpa using c0
                  clear he EQ go
                  go_wp2_with fail
                  go_meet
                  exact ⟨by first | rfl | rw [c1], rfl⟩
              case rest =>
                obtain ⟨rfl, hwx⟩ := hcut
                rw [hwx]
                have llb : ll <= 16384 := by omega
                clear hwx go hk lb
                have a1 := he.out.rd.box.c 1 _ rfl
                have T4 := zdy (Zk g A c D r 4 wr he.out.rd (by decide))
                go_upto_region 24 with fail
                go_wp2_with fail
                refine T4.out.mono ?_; intro e w7 hT
                obtain rfl := hT.1
                have S7 := zdy (And.intro hT.2.1 hT.2.2)
                obtain ⟨tv, htv⟩ : ∃ tv, qq A D r 4 = tv := ⟨_, rfl⟩
                obtain ⟨β, hβ⟩ : ∃ β : Bool, β = !decide (r.code ≠ 0 \/ D.length < r.at_ + 4) := ⟨_, rfl⟩
                have HB := zdy hβ
                have HTV := zdy htv
                obtain ⟨r9, hr9⟩ : ∃ r9, r9 = sumR D r := ⟨_, rfl⟩
                have E9 := zdy hr9
                have HAT := zdy he.out.rd.at_
                rw [htv]
                clear T4 hT htv hβ hr9 a1
                go_upto_region 25 with fail
                go_cut [98] from 97 to 98 (fun s98 wx => s98 = .bool β /\ wx = w7)
                case first =>
                  by_cases bad : r.code ≠ 0 \/ D.length < r.at_ + 4
                  · obtain ⟨e1, e2⟩ := Zq (A := A) (c := c) bad HAT.out
                    have eb : β = false := by rw [HB.out, decide_eq_true bad]; rfl
                    have et : tv = .slice none 0 0 := HTV.out.symm.trans e1
                    have sn := sl_noN 0 0 w7
                    subst et
                    subst eb
                    clear bad e1 e2
                    go_wp2_with fail
                    go_meet
                    exact ⟨rfl, rfl⟩
                  · have eb : β = true := by rw [HB.out, decide_eq_false bad]; rfl
                    obtain ⟨ad, et⟩ : ∃ ad, tv = .slice (some ad) 4 4 := by
                      obtain ⟨c0, l4⟩ := Ve bad
                      obtain ⟨ad, _, h2, _⟩ := Vf (n := 3) he.out.rd c0 l4
                      exact ⟨_, HTV.out.symm.trans h2⟩
                    have sn := QU ad 4 4 w7
                    subst et
                    subst eb
                    clear bad
                    go_wp2_with fail
                    go_meet
                    exact ⟨rfl, rfl⟩
                case rest =>
                  obtain ⟨rfl, hwx⟩ := hcut
                  rw [hwx]
                  clear hwx
                  go_upto_if 98 with fail
                  go_cut [18] from 99 to 151 (fun s18 wx => Hid (RdS wx g A c D r9 88 /\ Mv [g] wr wx))
                  case first =>
                    cases β with
                    | false =>
                      have NX : Hid (RdS w7 g A c D r9 88 /\ Mv [g] wr w7) := zdy (by
                        have bad : r.code ≠ 0 \/ D.length < r.at_ + 4 := by
                          have := HB.out
                          by_cases q : r.code ≠ 0 \/ D.length < r.at_ + 4
                          · exact q
                          · rw [decide_eq_false q] at this; cases this
                        obtain ⟨_, e2⟩ := Zq (A := A) (c := c) bad HAT.out
                        have e2 : (zo D r 4).1 = [] := e2
                        have e : r9 = (zo D r 4).2 := by rw [E9.out]; unfold sumR; dsimp only; rw [if_pos e2]
                        rw [e]
                        exact S7.out)
                      clear he EQ
                      go_wp2_with fail
                      go_meet
                      exact NX
                    | true =>
                      obtain ⟨c0, l4⟩ := Ve (n := 4) (fun q => by have := HB.out; rw [decide_eq_true q] at this; cases this)
                      obtain ⟨ad, hA, h2, hb, hc⟩ := Vf (n := 3) he.out.rd c0 l4
                      have et : tv = .slice (some (ad.add r.at_)) 4 4 := HTV.out.symm.trans h2
                      have TE := jO (n := 4) c0 l4
                      have T4e : (D.drop r.at_).take 4 = [D.getD r.at_ 0, D.getD (r.at_ + 1) 0, D.getD (r.at_ + 2) 0, D.getD (r.at_ + 3) 0] := Vg l4
                      have CC := hc w7 S7.out.1.dat
                      have cc0 := CC 0 (by omega)
                      have cc1 := CC 1 (by omega)
                      have cc2 := CC 2 (by omega)
                      have cc3 := CC 3 (by omega)
                      rw [Nat.add_zero] at cc0
                      rw [<- jD, <- add_lit _ 1 (by decide)] at cc1
                      rw [<- jD, <- add_lit _ 2 (by decide)] at cc2
                      rw [<- jD, <- add_lit _ 3 (by decide)] at cc3
                      obtain ⟨s, hs⟩ : ∃ s : Nat, sumL (D.take r.at_) = (s : Int) := ⟨(sumL (D.take r.at_)).toNat, by have := xV (D.take r.at_); omega⟩
                      have s0 : s < 4294967296 := by have := xV (D.take r.at_); omega
                      have SM := t_sum A c (D.take r.at_) g w7 (Vh S7.out.1.dat.sees r.at_) (fun b m => RNG.out b (List.mem_of_mem_take m)) (by rw [List.length_take]; omega)
                      rw [hs, List.length_take, Nat.min_eq_left (by omega)] at SM
                      have SM := zdy SM
                      obtain ⟨r8, hr8⟩ : ∃ r8 : RdT, r8 = ⟨r.at_ + 4, 0, r.spot⟩ := ⟨_, rfl⟩
                      have S8 := zdy (show RdS w7 g A c D r8 88 /\ Mv [g] wr w7 by
                        have := S7.out
                        rw [show ((4 : Nat) : Int) = 4 from rfl] at this TE
                        rw [TE] at this
                        rw [hr8]
                        exact this)
                      have k1 : w7.cell? ⟨g, 1, none⟩ = some (.int .i64 ((r.at_ + 4 : Nat) : Int)) := by have := S8.out.1.box.c 1 _ rfl; rw [hr8] at this; exact this
                      have EQN : Hid (r9 = if [D.getD r.at_ 0, D.getD (r.at_ + 1) 0, D.getD (r.at_ + 2) 0, D.getD (r.at_ + 3) 0] ≠ qw (s : Int) then zr r8 300 ((r.at_ : Nat) : Int) else if r.at_ + 4 < D.length then zr r8 300 ((r.at_ + 4 : Nat) : Int) else r8) := zdy (by
                        rw [E9.out, <- hs, hr8]
                        unfold sumR
                        rw [show ((4 : Nat) : Int) = 4 from rfl] at TE
                        rw [TE, T4e]
                        dsimp only
                        rw [if_neg (by simp)])
                      have cap : D.length <= c := he.out.rd.dat.cap
                      generalize ad.add r.at_ = aa at *
                      generalize D.getD r.at_ 0 = d0 at *
                      generalize D.getD (r.at_ + 1) 0 = d1 at *
                      generalize D.getD (r.at_ + 2) 0 = d2 at *
                      generalize D.getD (r.at_ + 3) 0 = d3 at *
                      obtain ⟨p4, hp4⟩ : ∃ p4, p4 = r.at_ + 4 := ⟨_, rfl⟩
                      rw [<- hp4] at k1 EQN
                      have pl4 : p4 <= D.length := by omega
                      have pp4 : p4 = r.at_ + 4 := hp4
                      generalize r.at_ = p at *
                      have FL1 := zdy (xX g A D.length c r8 300 p w7 S8.out.1.box)
                      have FL2 := zdy (xX g A D.length c r8 300 p4 w7 S8.out.1.box)
                      have pc : p <= c := by omega
                      have HPP := zdy pp4
                      subst et
                      clear he EQ hA h2 hb hc TE T4e CC hs hr8 hp4 pp4 l4 c0 S7 HTV HAT HB E9
                      by_cases n0 : d0 = (s : Int) % 256
                      case neg =>
                        have NX : Hid (∀ w9, Bk w9 g (rdV A D.length c (zr r8 300 p)) 88 -> Mv [g] w7 w9 -> RdS w9 g A c D r9 88 /\ Mv [g] wr w9) := zdy (fun w9 b m => by
                          have e : r9 = zr r8 300 p := by rw [EQN.out]; exact if_pos (fun z => n0 (by unfold qw at z; simp only [List.cons.injEq] at z; exact z.1))
                          rw [e]
                          exact ⟨S8.out.1.nx m b (by rw [zM]; exact S8.out.1.at_), S8.out.2.then m⟩)
                        go_wp2_with fail
                        refine SM.out.mono ?_; rintro e w8 ⟨rfl, hw8⟩; subst hw8
                        clear SM
                        go_wp2_with fail
                        refine FL1.out.mono ?_; rintro e w9 ⟨rfl, b9, m9⟩
                        have NX := zdy (NX.out w9 b9 m9)
                        clear FL1 FL2 b9 m9
                        go_wp2_with fail
                        go_meet
                        exact NX
                      by_cases n1 : d1 = (s : Int) / 256 % 256
                      case neg =>
                        have NX : Hid (∀ w9, Bk w9 g (rdV A D.length c (zr r8 300 p)) 88 -> Mv [g] w7 w9 -> RdS w9 g A c D r9 88 /\ Mv [g] wr w9) := zdy (fun w9 b m => by
                          have e : r9 = zr r8 300 p := by rw [EQN.out]; exact if_pos (fun z => n1 (by unfold qw at z; simp only [List.cons.injEq] at z; exact z.2.1))
                          rw [e]
                          exact ⟨S8.out.1.nx m b (by rw [zM]; exact S8.out.1.at_), S8.out.2.then m⟩)
                        go_wp2_with fail
                        refine SM.out.mono ?_; rintro e w8 ⟨rfl, hw8⟩; subst hw8
                        clear SM
                        go_wp2_with fail
                        refine FL1.out.mono ?_; rintro e w9 ⟨rfl, b9, m9⟩
                        have NX := zdy (NX.out w9 b9 m9)
                        clear FL1 FL2 b9 m9
                        go_wp2_with fail
                        go_meet
                        exact NX
                      by_cases n2 : d2 = (s : Int) / 65536 % 256
                      case neg =>
                        have NX : Hid (∀ w9, Bk w9 g (rdV A D.length c (zr r8 300 p)) 88 -> Mv [g] w7 w9 -> RdS w9 g A c D r9 88 /\ Mv [g] wr w9) := zdy (fun w9 b m => by
                          have e : r9 = zr r8 300 p := by rw [EQN.out]; exact if_pos (fun z => n2 (by unfold qw at z; simp only [List.cons.injEq] at z; exact z.2.2.1))
                          rw [e]
                          exact ⟨S8.out.1.nx m b (by rw [zM]; exact S8.out.1.at_), S8.out.2.then m⟩)
                        go_wp2_with fail
                        refine SM.out.mono ?_; rintro e w8 ⟨rfl, hw8⟩; subst hw8
                        clear SM
                        go_wp2_with fail
                        refine FL1.out.mono ?_; rintro e w9 ⟨rfl, b9, m9⟩
                        have NX := zdy (NX.out w9 b9 m9)
                        clear FL1 FL2 b9 m9
                        go_wp2_with fail
                        go_meet
                        exact NX
                      by_cases n3 : d3 = (s : Int) / 16777216
                      case neg =>
                        have NX : Hid (∀ w9, Bk w9 g (rdV A D.length c (zr r8 300 p)) 88 -> Mv [g] w7 w9 -> RdS w9 g A c D r9 88 /\ Mv [g] wr w9) := zdy (fun w9 b m => by
                          have e : r9 = zr r8 300 p := by rw [EQN.out]; exact if_pos (fun z => n3 (by unfold qw at z; simp only [List.cons.injEq] at z; exact z.2.2.2.1))
                          rw [e]
                          exact ⟨S8.out.1.nx m b (by rw [zM]; exact S8.out.1.at_), S8.out.2.then m⟩)
                        go_wp2_with fail
                        refine SM.out.mono ?_; rintro e w8 ⟨rfl, hw8⟩; subst hw8
                        clear SM
                        go_wp2_with fail
                        refine FL1.out.mono ?_; rintro e w9 ⟨rfl, b9, m9⟩
                        have NX := zdy (NX.out w9 b9 m9)
                        clear FL1 FL2 b9 m9
                        go_wp2_with fail
                        go_meet
                        exact NX
                      have TT : [d0, d1, d2, d3] = qw (s : Int) := by unfold qw; rw [<- n0, <- n1, <- n2, <- n3]
                      have EQ2 := zdy (EQN.out.trans (if_neg (fun z => z TT)))
                      clear TT EQN
                      by_cases more : p4 < D.length
                      · have more' : (p4 : Int) < (D.length : Int) := by omega
                        have NX : Hid (∀ w9, Bk w9 g (rdV A D.length c (zr r8 300 p4)) 88 -> Mv [g] w7 w9 -> RdS w9 g A c D r9 88 /\ Mv [g] wr w9) := zdy (fun w9 b m => by
                          have e : r9 = zr r8 300 p4 := by rw [EQ2.out]; exact if_pos more
                          rw [e]
                          exact ⟨S8.out.1.nx m b (by rw [zM]; exact S8.out.1.at_), S8.out.2.then m⟩)
                        clear more
                        go_wp2_with fail
                        refine SM.out.mono ?_; rintro e w8 ⟨rfl, hw8⟩; subst hw8
                        clear SM
                        go_wp2_with fail
                        refine FL2.out.mono ?_; rintro e w9 ⟨rfl, b9, m9⟩
                        have NX := zdy (NX.out w9 b9 m9)
                        clear FL1 FL2 b9 m9
                        go_wp2_with fail
                        go_meet
                        exact NX
                      · have more' : ¬ (p4 : Int) < (D.length : Int) := by omega
                        have NX : Hid (RdS w7 g A c D r9 88 /\ Mv [g] wr w7) := zdy (by
                          have e : r9 = r8 := by rw [EQ2.out]; exact if_neg more
                          rw [e]
                          exact S8.out)
                        clear more
                        go_wp2_with fail
                        refine SM.out.mono ?_; rintro e w8 ⟨rfl, hw8⟩; subst hw8
                        clear SM
                        go_wp2_with fail
                        go_meet
                        exact NX
                  case rest =>
                    obtain ⟨w8, hw8⟩ : ∃ w8, w8 = wc := ⟨_, rfl⟩
                    rw [<- hw8] at hcut ⊢
                    have S9 := zdy hcut.out
                    clear hw8 hcut S7 HTV HAT HB
                    have DE : Hid (decT D = endR wn hn F.1 r9) := zdy (by
                      unfold decT
                      rw [if_neg (by omega)]
                      dsimp only
                      rw [<- Vk, <- HR0.out, E1.out.1, E1.out.2, E2.out.1, E2.out.2, <- E3.out, E4.out.1, E4.out.2, Int.toNat_natCast, <- EF.out, EQ.out]
                      dsimp only
                      rw [<- E9.out])
                    have K8 : Bk w8 W.heap.size [.int .i64 0, .int .i64 0] 23 := K2.out.of_eq ((S9.out.2.blk _ (Nat.lt_of_lt_of_le K2.out.lt he.out.mv.size) (by have := HG.out.2.1; simp; omega)).trans (he.out.mv.blk _ K2.out.lt (by have := HG.out.2.1; simp; omega)))
                    have f0 := K8.f 0
                    have f1 := K8.f 1
                    have s0 := K8.c 0 _ rfl
                    have s1 := K8.c 1 _ rfl
                    have BW : Below W.heap.size W w8 := HG.out.2.2.trans (⟨(he.out.mv.then S9.out.2).os, (he.out.mv.then S9.out.2).tape, (he.out.mv.then S9.out.2).output, (he.out.mv.then S9.out.2).size, fun j hj => (he.out.mv.then S9.out.2).blk j (by have := HG.out.2.2.size; omega) (by have := HG.out.2.1; simp; omega)⟩)
                    have HBW := zdy BW
                    have j2 : w8.cell? ⟨g, 2, none⟩ = some (.int .i64 r9.code) := S9.out.1.box.c 2 _ rfl
                    have j3 : w8.cell? ⟨g, 3, none⟩ = some (.int .i64 r9.spot) := S9.out.1.box.c 3 _ rfl
                    by_cases c9 : r9.code = 0
                    case neg =>
                      have b9 : (r9.code == 0) = false := by simpa using c9
                      have EN : Hid (∀ w', Below W.heap.size W w' -> DecR W D (.returned (.tuple #[.agg #[.int .i64 0, .int .i64 0], .slice none 0 0, .int .i64 r9.code, .int .i64 r9.spot])) w') := zdy (fun w' b => by
                        have e : decT D = ⟨0, 0, [], r9.code, r9.spot⟩ := by rw [DE.out]; unfold endR; rw [if_pos c9]
                        exact ⟨.slice none 0 0, by rw [e], b, Or.inl ⟨rfl, by rw [e]⟩⟩)
                      clear he EQ K8 BW DE
                      go_upto_region 32 with fail
                      go_region
                      go_wp2_with fail
                      refine bodyPost_ret (v := .tuple #[.agg #[.int .i64 0, .int .i64 0], .slice none 0 0, .int .i64 r9.code, .int .i64 r9.spot]) (by rw [kN rfl]; go_simp) rfl ?_
                      exact EN.out _ (((HBW.out.setCell (p := ⟨W.heap.size, 0, none⟩) zdA _).setCell (p := ⟨W.heap.size, 1, none⟩) zdA _).drew)
                    case pos =>
                      have b9 : (r9.code == 0) = true := by simpa using c9
                      rw [c9] at j2
                      have OW := Zr he.out.own S9.out.2 he.out.rd.box (by decide)
                      have FD : FrsD w8 w8.heap.size A' c' L := Vi (by rw [HLL.out] at OW; exact OW) (by have := HLL.out; omega) (fun x m => by
                        obtain ⟨q1, q2, q3, q4⟩ := he.out.ok x m
                        exact ⟨(q1.below (S9.out.2.under (Nat.le_of_lt he.out.rd.box.lt)) zdA).more (Nat.le_of_lt S9.out.1.box.lt), by omega, by omega⟩)
                      have OKL := fun x m => (he.out.ok x m).2
                      have CP := KD w8.heap.size (.slice none 0 0) [] A' c' L w8.heap.size 0 w8 ⟨rfl, Or.inl ⟨rfl, rfl⟩⟩ zdA FD zdA (by rw [<- HLL.out]; omega) (fun x m => (OKL x m).1) (fun x m => (OKL x m).2) ⟨by decide, by decide⟩ (by decide)
                      rw [<- HLL.out] at CP
                      have CP := zdy CP
                      have EN : Hid (∀ (v' : Value) (g' : Nat) (w9 : World), CopAt w8.heap.size w8 g' (zt L).length [] 0 L v' w9 -> DecR W D (.returned (.tuple #[.agg #[.int .i64 (wn : Int), .int .i64 (hn : Int)], v', .int .i64 0, .int .i64 0])) ((w9.setCell ⟨W.heap.size, 0, none⟩ (.int .i64 (wn : Int))).setCell ⟨W.heap.size, 1, none⟩ (.int .i64 (hn : Int)))) := zdy (fun v' g' w9 C => by
                        have e : decT D = ⟨wn, hn, frms L, 0, 0⟩ := by rw [DE.out, EQ.out]; unfold endR; rw [if_neg (by simp [c9])]
                        have lt8 : W.heap.size < w8.heap.size := K8.lt
                        have far : ∀ j, j ≠ W.heap.size -> ((w9.setCell ⟨W.heap.size, 0, none⟩ (.int .i64 (wn : Int))).setCell ⟨W.heap.size, 1, none⟩ (.int .i64 (hn : Int))).heap[j]? = w9.heap[j]? := fun j ne => (heap_setCell_other _ _ _ _ ne).trans (heap_setCell_other _ _ _ _ ne)
                        refine ⟨v', by rw [e], ((HBW.out.trans (C.bel.mono (Nat.le_of_lt lt8))).setCell (p := ⟨W.heap.size, 0, none⟩) zdA _).setCell (p := ⟨W.heap.size, 1, none⟩) zdA _, Or.inr ⟨g', L, by have := C.gn; omega, ?_, C.row.keep (far g' (by have := C.gn; omega)), by rw [e], fun x m => ⟨(he.out.ok x m).1.rng, OKL x m⟩⟩⟩
                        have o := C.own
                        rw [List.nil_append] at o
                        exact qG (Vj o lt8 far) (Nat.le_of_lt lt8))
                      have FZ : Hid (∀ w9 : World, Below w8.heap.size w8 w9 -> Bk w9 W.heap.size [.int .i64 0, .int .i64 0] 23) := zdy (fun w9 b => K8.of_eq (b.block _ K8.lt))
                      clear he EQ K8 BW DE OW FD OKL
                      go_wp2_with fail
                      refine CP.out.mono ?_; rintro e w9 ⟨v', g', rfl, C⟩
                      have K9 := FZ.out w9 C.bel
                      have f0 := K9.f 0
                      have f1 := K9.f 1
                      have s0 := K9.c 0 _ rfl
                      have s1 := K9.c 1 _ rfl
                      have EN := zdy (EN.out v' g' w9 C)
                      clear CP C K9
                      go_wp2_with fail
                      refine bodyPost_ret (v := .tuple #[.agg #[.int .i64 (wn : Int), .int .i64 (hn : Int)], v', .int .i64 0, .int .i64 0]) (by rw [kN rfl]; go_simp) rfl ?_
                      exact EN.out
end
end
section
open Go Go.RowKit Go.Sort
section
theorem RdS.drewN {W : World} {g : Nat} {A : Option Addr} {c : Nat} {D : List Int} {r : RdT} {T : TypeId} (h : RdS W g A c D r T) (q : Nat) : RdS (W.drewN q) g A c D r T := h.nx (Mv.below (below_drewN (Below.refl _ W) q)) h.box h.at_
theorem Mv.drewN {W V : World} {g : Nat} (h : Mv [g] W V) (q : Nat) : Mv [g] W (V.drewN q) := h.then (Mv.below (below_drewN (Below.refl _ V) q))
set_option maxHeartbeats 8000000 in
set_option maxRecDepth 100000 in
theorem vE (g : Nat) (A : Option Addr) (c : Nat) (D : List Int) (r : RdT) (most : Int) (W : World) (R : RdS W g A c D r 82) (hm0 : 0 <= most) (hm : most <= 1099511627776) : Calls Tryz.prog 49 #[.pointer (some ⟨g, 0, none⟩), .int .i64 most] W (x8 W g A c D r most 82) := by
 have k1 : W.cell? ⟨g, 1, none⟩ = some (.int .i64 (r.at_ : Int)) := R.box.c 1 _ rfl
 have k2 : W.cell? ⟨g, 2, none⟩ = some (.int .i64 r.code) := R.box.c 2 _ rfl
 have hp0 : r.at_ <= D.length := R.at_
 have hD : D.length <= 140737488355328 := R.dat.sz
 have RB := zdy R.dat.rng
 by_cases c0 : r.code = 0
 case neg =>
  have EN : Hid (x8 W g A c D r most 82 (.returned (.int .i64 0)) W) := zdy ⟨by rw [Kp most c0], by rw [Kp most c0]; exact R, Mv.refl _ W⟩
  generalize r.code = q at *
  clear R
  go_enter Tryz.func49, Tryz.ntmps49
  go_wp2_with fail
  go_ret
  exact EN.out
 rw [c0] at k2
 obtain ⟨P, hP⟩ : ∃ P, P = numR D r most := ⟨_, rfl⟩
 have ST : Hid (kM W g A c D r.at_ most P 82 0 0 r W /\ r.code = 0) := zdy ⟨⟨R, Mv.refl _ W, hP.symm⟩, c0⟩
 have EN : Hid (∀ (x : Int) (r' : RdT) (w' : World), P = (x, r') -> RdS w' g A c D r' 82 -> Mv [g] W w' -> x8 W g A c D r most 82 (.returned (.int .i64 x)) w') := zdy (fun x r' w' e a b => by
  have e2 : numR D r most = (x, r') := hP.symm.trans e
  exact ⟨by rw [e2], by rw [e2]; exact a, b⟩)
 generalize x8 W g A c D r most 82 = post at *
 generalize r.at_ = p0 at *
 clear hP R c0
 go_enter Tryz.func49, Tryz.ntmps49
 go_wp2_with fail
 go_loopw [6, 7, 8] (fun s6 s7 s8 wr => ∃ (i n u : Nat) (r' : RdT), i <= 6 /\ s6 = .int .i64 (n : Int) /\ s7 = .int .i64 (u : Int) /\ s8 = .int .i64 (i : Int) /\ u = 128 ^ i /\ n < 128 ^ i /\ Hid (kM W g A c D p0 most P 82 i n r' wr /\ r'.code = 0)) (fun _ _ s8 _ => 6 - (intOf s8).toNat)
 case atStart => exact ⟨0, 0, 1, r, by decide, rfl, rfl, rfl, rfl, by decide, ST⟩
 case round =>
  obtain ⟨i, n, u, r', hi, rfl, rfl, rfl, hu, hn, hr⟩ := hrel
  clear ST k1 k2
  have bx := hr.out.1.1.box
  have j0 : wr.cell? ⟨g, 0, none⟩ = some (.slice A D.length c) := bx.c 0 _ rfl
  have j1 : wr.cell? ⟨g, 1, none⟩ = some (.int .i64 (r'.at_ : Int)) := bx.c 1 _ rfl
  have f1 := bx.f 1
  have la := hr.out.1.1.at_
  have cc := hr.out.2
  by_cases lt : i < 6
  ·obtain ⟨k, hk⟩ : ∃ k, 6 - i = k + 1 := ⟨5 - i, by omega⟩
   have q6 : (i : Int) < 6 := by omega
   have wi := zdz ((i : Int) + 1) (by omega)
   by_cases l2 : r'.at_ < D.length
   ·obtain ⟨ad, hA, hb, hc⟩ := xJ hr.out.1.1.dat.sees r'.at_ l2
    have hA : A = some ad := hA
    have ZZ := zdy ((hk ▸ hr.out.1.2.2 : z7 D p0 most (k + 1) i n r' = P).symm.trans (Va k i n cc l2))
    have bd := xW RB.out r'.at_
    have SET := zdy (fun (V : World) (R2 : RdS V g A c D r' 82) (M2 : Mv [g] W V) => show RdS (V.setCell ⟨g, 1, none⟩ (.int .i64 ((r'.at_ : Int) + 1))) g A c D ⟨r'.at_ + 1, r'.code, r'.spot⟩ 82 /\ Mv [g] W (V.setCell ⟨g, 1, none⟩ (.int .i64 ((r'.at_ : Int) + 1))) from by
     have b2 := R2.box.set 1 (.int .i64 ((r'.at_ : Int) + 1))
     have m2 : Mv [g] V (V.setCell ⟨g, 1, none⟩ (.int .i64 ((r'.at_ : Int) + 1))) := Mv.set _ (by simp)
     exact ⟨R2.nx m2 (by exact b2) l2, M2.then m2⟩)
    have HR1 := zdy hr.out.1.1
    have HM1 := zdy hr.out.1.2.1
    generalize D.getD r'.at_ 0 = dd at *
    obtain ⟨d, rfl⟩ : ∃ d : Nat, dd = (d : Int) := ⟨dd.toNat, by omega⟩
    obtain ⟨p, hp⟩ : ∃ p, p = r'.at_ := ⟨_, rfl⟩
    obtain ⟨dn, hdn⟩ : ∃ dn, dn = D.length := ⟨_, rfl⟩
    rw [<- hp] at j1 l2 hc SET ZZ la
    rw [<- hdn] at j0 l2 hD la
    subst hA
    have ne : ¬ (p : Int) = (dn : Int) := by omega
    have x0 : (0 : Int) <= (p : Int) := by omega
    have x1 : (p : Int) < (dn : Int) := by omega
    have xn : (p : Int).toNat = p := by omega
    have wp := zdz ((p : Int) + 1) (by omega)
    obtain ⟨m, hm'⟩ : ∃ m, m = d % 128 := ⟨_, rfl⟩
    have p5 : 128 ^ i <= 128 ^ 5 := Nat.pow_le_pow_right (by decide) (by omega)
    have p6 : 128 ^ 5 = 34359738368 := by decide
    have ps : 128 ^ (i + 1) = 128 ^ i * 128 := Nat.pow_succ 128 i
    have ul : u <= 34359738368 := by omega
    have tm : Int.tmod (d : Int) 128 = (m : Int) := by rw [hm']; exact (Int.ofNat_tmod d 128).symm
    obtain ⟨q, hq⟩ : ∃ q, q = m * u := ⟨_, rfl⟩
    have ql : q <= 127 * u := by rw [hq]; exact Nat.mul_le_mul_right _ (by omega)
    obtain ⟨n2, hn2⟩ : ∃ n2, n2 = n + q := ⟨_, rfl⟩
    have e1 : (m : Int) * (u : Int) = (q : Int) := by rw [hq]; simp
    have e2 : (n : Int) + (q : Int) = (n2 : Int) := by rw [hn2]; simp
    have w1 : IntKind.i64.wrap (q : Int) = (q : Int) := zdz _ (by omega)
    have w2 : IntKind.i64.wrap (n2 : Int) = (n2 : Int) := zdz _ (by omega)
    obtain ⟨v, hv⟩ : ∃ v, v = u * 128 := ⟨_, rfl⟩
    have u2 : (u : Int) * 128 = (v : Int) := by omega
    have w3 : IntKind.i64.wrap (v : Int) = (v : Int) := zdz _ (by omega)
    have n2l : n2 < 128 ^ (i + 1) := by rw [ps, <- hu]; omega
    have NV := zdy (show (n2 : Int) = (n : Int) + (d : Int) % 128 * 128 ^ i by rw [hn2, hq, hm', hu]; simp)
    have HN2 := zdy n2l
    have HU2 := zdy (show v = 128 ^ (i + 1) by rw [hv, ps, hu])
    have HCC := zdy cc
    have HKK := zdy hk
    have wd : IntKind.i64.wrap (d : Int) = (d : Int) := zdz _ (by omega)
    clear hr bx hb la cc p5 p6 ps ql hq hn2 n2l hm' hu hn hk hdn hp hv
    go_wp2_with fail
    refine qk 9 (by kernel_rfl) (by kernel_rfl) ?_
    simp only [zdB, zdC, zdD, zdE]
    repeat (first | go_big_quiet_step (fail) | quiet_step (fail))
    refine wpQuiet_nil ?_
    intro _ hw'
    obtain ⟨nq, hw''⟩ := hw'
    subst hw''
    go_wp2_with fail
    refine qk 11 (by kernel_rfl) (by kernel_rfl) ?_
    simp only [zdB, zdC, zdD, zdE]
    repeat (first | go_big_quiet_step (fail) | quiet_step (fail))
    refine wpQuiet_nil ?_
    intro _ hw'
    obtain ⟨nq2, hw''⟩ := hw'
    subst hw''
    obtain ⟨V, hV⟩ : ∃ V, V = (wr.drewN nq).drewN nq2 := ⟨_, rfl⟩
    have RV : RdS V g (some ad) c D r' 82 := by rw [hV]; exact (HR1.out.drewN nq).drewN nq2
    have MV : Mv [g] W V := by rw [hV]; exact (HM1.out.drewN nq).drewN nq2
    have v1 : V.cell? ⟨g, 1, none⟩ = some (.int .i64 (p : Int)) := by rw [hV]; exact j1
    have vf := RV.box.f 1
    obtain ⟨S1, S2⟩ := SET.out V RV MV
    have RS := zdy S1
    have MS := zdy S2
    rw [<- hV]
    clear hV RV MV S1 S2 j0 j1 f1 SET HR1 HM1 hc
    go_upto_region 16 with fail
    obtain ⟨U, hU⟩ : ∃ U, U = V.setCell ⟨g, 1, none⟩ (.int .i64 ((p : Int) + 1)) := ⟨_, rfl⟩
    rw [<- hU] at RS MS ⊢
    clear hU v1 vf
    by_cases big : 128 <= d
    ·have b1 : (128 : Int) <= (d : Int) := by omega
     have NX : Hid (kM W g (some ad) c D p0 most P 82 (i + 1) n2 ⟨p + 1, r'.code, r'.spot⟩ U /\ (RdT.mk (p + 1) r'.code r'.spot).code = 0) := zdy (by
      have z := ZZ.out
      rw [if_neg (by omega), <- NV.out] at z
      exact ⟨⟨RS.out, MS.out, by rw [show 6 - (i + 1) = k by have := HKK.out; omega]; exact z.symm⟩, HCC.out⟩)
     clear ZZ NV
     go_wp2_with fail
     go_roundw
     case rel => exact ⟨i + 1, n2, v, _, by omega, rfl, rfl, by go_num, HU2.out, HN2.out, NX⟩
     case measure => simp [intOf]; omega
    ·have b1 : ¬ (128 : Int) <= (d : Int) := by omega
     have ZY := ZZ.out
     rw [if_pos (by omega)] at ZY
     have NV2 := NV.out
     rw [show (d : Int) % 128 = (d : Int) by omega] at NV2
     rw [<- NV2] at ZY
     have HZY := zdy ZY
     clear ZZ NV ZY NV2
     have FL := zdy (xK g (some ad) D.length c _ 300 p0 U RS.out.box)
     have BAD : Hid (((d : Int) = 0 /\ 0 < i) \/ most < (n2 : Int) -> P = (0, zr ⟨p + 1, r'.code, r'.spot⟩ 300 p0)) := zdy (fun z => by have y := HZY.out; rw [if_pos z] at y; exact y)
     have GOOD : Hid (¬ (((d : Int) = 0 /\ 0 < i) \/ most < (n2 : Int)) -> P = ((n2 : Int), ⟨p + 1, r'.code, r'.spot⟩)) := zdy (fun z => by have y := HZY.out; rw [if_neg z] at y; exact y)
     clear HZY
     by_cases i0 : 0 < i
     ·have i1 : (0 : Int) < (i : Int) := by omega
      by_cases d0 : d = 0
      ·subst d0
       have EP := zdy (BAD.out (Or.inl ⟨rfl, i0⟩))
       go_wp2_with fail
       refine FL.out.mono ?_; rintro e w2 ⟨rfl, b2, m2⟩
       have EN := zdy (EN.out _ _ w2 EP.out (RS.out.nx m2 b2 (by rw [zM]; exact RS.out.at_)) (MS.out.then m2))
       clear FL b2 m2
       go_wp2_with fail
       exact EN.out
      ·have d1 : ¬ (d : Int) = 0 := by omega
       by_cases g1 : (1099511627776 : Int) < (n2 : Int)
       ·have g0 := zdy (show most < (n2 : Int) by omega)
        have EP := zdy (BAD.out (Or.inr g0.out))
        go_wp2_with fail
        refine FL.out.mono ?_; rintro e w2 ⟨rfl, b2, m2⟩
        have EN := zdy (EN.out _ _ w2 EP.out (RS.out.nx m2 b2 (by rw [zM]; exact RS.out.at_)) (MS.out.then m2))
        clear FL b2 m2
        go_wp2_with fail
        exact EN.out
       ·by_cases g2 : most < (n2 : Int)
        ·have g0 := zdy g2
         have EP := zdy (BAD.out (Or.inr g0.out))
         go_wp2_with fail
         refine FL.out.mono ?_; rintro e w2 ⟨rfl, b2, m2⟩
         have EN := zdy (EN.out _ _ w2 EP.out (RS.out.nx m2 b2 (by rw [zM]; exact RS.out.at_)) (MS.out.then m2))
         clear FL b2 m2
         go_wp2_with fail
         exact EN.out
        ·have g0 := zdy g2
         have h0 := zdy d1
         have EN := zdy (EN.out _ _ U (GOOD.out (fun z => by rcases z with z | z; exact h0.out z.1; exact g0.out z)) RS.out MS.out)
         go_wp2_with fail
         exact EN.out
     ·have i1 : ¬ (0 : Int) < (i : Int) := by omega
      by_cases g1 : (1099511627776 : Int) < (n2 : Int)
      ·have g0 := zdy (show most < (n2 : Int) by omega)
       have EP := zdy (BAD.out (Or.inr g0.out))
       go_wp2_with fail
       refine FL.out.mono ?_; rintro e w2 ⟨rfl, b2, m2⟩
       have EN := zdy (EN.out _ _ w2 EP.out (RS.out.nx m2 b2 (by rw [zM]; exact RS.out.at_)) (MS.out.then m2))
       clear FL b2 m2
       go_wp2_with fail
       exact EN.out
      ·by_cases g2 : most < (n2 : Int)
       ·have g0 := zdy g2
        have EP := zdy (BAD.out (Or.inr g0.out))
        go_wp2_with fail
        refine FL.out.mono ?_; rintro e w2 ⟨rfl, b2, m2⟩
        have EN := zdy (EN.out _ _ w2 EP.out (RS.out.nx m2 b2 (by rw [zM]; exact RS.out.at_)) (MS.out.then m2))
        clear FL b2 m2
        go_wp2_with fail
        exact EN.out
       ·have g0 := zdy g2
        have h0 := zdy i0
        have EN := zdy (EN.out _ _ U (GOOD.out (fun z => by rcases z with z | z; exact h0.out z.2; exact g0.out z)) RS.out MS.out)
        go_wp2_with fail
        exact EN.out
   ·obtain ⟨p, hp⟩ : ∃ p, p = r'.at_ := ⟨_, rfl⟩
    have pe : p = D.length := by omega
    have EP : Hid (P = (0, zr r' 6 D.length)) := zdy (by
     have z := hr.out.1.2.2
     rw [hk, z7, if_neg (by simp [cc]), if_pos (by omega)] at z
     exact z.symm)
    have HR1 := zdy hr.out.1.1
    have HM1 := zdy hr.out.1.2.1
    have HPE := zdy (show r'.at_ = D.length by omega)
    rw [HPE.out] at j1
    obtain ⟨dn, hdn⟩ : ∃ dn, dn = D.length := ⟨_, rfl⟩
    have HDN := zdy hdn
    rw [<- hdn] at j0 j1
    clear hr bx la cc hp pe hu hn hk hdn l2
    go_wp2_with fail
    refine qk 9 (by kernel_rfl) (by kernel_rfl) ?_
    simp only [zdB, zdC, zdD, zdE]
    repeat (first | go_big_quiet_step (fail) | quiet_step (fail))
    refine wpQuiet_nil ?_
    intro _ hw'
    obtain ⟨nq, hw''⟩ := hw'
    subst hw''
    have FL := xK g A D.length c r' 6 D.length (wr.drewN nq) (HR1.out.drewN nq).box
    rw [<- HDN.out] at FL
    have FL := zdy FL
    go_wp2_with fail
    refine FL.out.mono ?_; rintro e w2 ⟨rfl, b2, m2⟩
    have EN := zdy (EN.out _ _ w2 EP.out ((HR1.out.drewN nq).nx m2 (by rw [<- HDN.out]; exact b2) (by rw [zM]; exact HR1.out.at_)) ((HM1.out.drewN nq).then m2))
    clear FL b2 m2
    go_wp2_with fail
    exact EN.out
  ·have e6 : i = 6 := by omega
   subst e6
   have q6 : ¬ ((6 : Nat) : Int) < 6 := by omega
   have EP : Hid (P = (0, zr r' 300 p0)) := zdy (by have z := hr.out.1.2.2; rw [z7] at z; exact z.symm)
   have FL := zdy (xK g A D.length c r' 300 p0 wr bx)
   have HR1 := zdy hr.out.1.1
   have HM1 := zdy hr.out.1.2.1
   clear hr bx la cc hu hn j0 j1 f1
   go_wp2_with fail
   refine FL.out.mono ?_; rintro e w1 ⟨rfl, b1, m1⟩
   have EN := zdy (EN.out _ _ w1 EP.out (HR1.out.nx m1 b1 (by rw [zM]; exact HR1.out.at_)) (HM1.out.then m1))
   clear FL b1 m1
   go_wp2_with fail
   exact EN.out
end
end
section
open Go Go.RowKit Go.Sort
section
def emS (B : Nat) : Spec := ⟨fun v w => ∃ g, v = .slice (some ⟨g, 0, none⟩) 0 0 /\ B <= g /\ w.heap[g]? = some (.cells #[] 5 (0, 0)), fun v w w' hb ⟨g, e, h, k⟩ => ⟨g, e, h, (hb.block g (Array.getElem?_eq_some_iff.1 k).1).trans k⟩⟩
def BytR (W : World) (g : Nat) (A : Option Addr) (c : Nat) (D : List Int) (r : RdT) (n : Nat) (e : Ending) (w' : World) : Prop :=
 RdS w' g A c D (zo D r n).2 82 /\ Mv [g] W w' /\ (((r.code ≠ 0 \/ D.length < r.at_ + n) /\ e = .returned (.slice none 0 0)) \/ ((r.code = 0 /\ r.at_ + n <= D.length) /\ ∃ g' c', e = .returned (.slice (some ⟨g', 0, none⟩) n c') /\ OneR w' W.heap.size ⟨0, g', c', (D.drop r.at_).take n, []⟩))
theorem QW {w : World} {B LO gE : Nat} {x : BA} (D : ByteD w B x) (e : w.heap[gE]? = some (.cells #[] 5 (0, 0))) (lo : LO <= gE) (t : Int) :
  ∃ g' c' w3, (Builtin.append_ #[27, 27] 27 #[.slice (some ⟨gE, 0, none⟩) 0 0, .slice x.A x.bs.length x.c]).run Tryz.prog w = .ok (.slice (some ⟨g', 0, none⟩) x.bs.length c') w3 /\ OneR w3 LO ⟨t, g', c', x.bs, []⟩ /\ w.grownBy w3 (some gE) := by
 obtain ⟨i0, hi0, hz0, hz1, hz2⟩ := info_parts j8
 have oe : w.ownsRow LO 5 1 (.slice (some ⟨gE, 0, none⟩) 0 0) 0 [] := ⟨rfl, Or.inr ⟨gE, 0, #[], rfl, lo, e, zdA, by decide, rfl, rfl⟩⟩
 have lt := (Array.getElem?_eq_some_iff.1 e).1
 obtain ⟨A, c, bs⟩ := x
 cases A with
 | none =>
  have c0 : c = 0 := D.nil rfl
  have l0 : bs.length <= c := D.cap
  obtain rfl := List.eq_nil_of_length_eq_zero (show bs.length = 0 by omega)
  refine ⟨gE, 0, w, ?_, oe, ⟨rfl, rfl, rfl, zdA, fun _ _ _ => rfl⟩⟩
  simp [Builtin.append_, run_underlying Tryz.underlying27, sizeOf, typeInfo, hi0, hz1, Builtin.lenOf, Builtin.firstCells, storeCells, Result.andThen]
 | some ad =>
  have hn : ∀ j u, (bts bs)[j]? = some u -> w.cell? (ad.add j) = some u := fun j u hj => by
   obtain ⟨a', e, _, k⟩ := D.sees (fun z => by have z : bts bs = [] := z; rw [z] at hj; simp at hj)
   cases e
   exact k j u hj
  have sz : bs.length <= 140737488355328 := D.sz
  obtain ⟨v', w3, r1, r2, r3, r4, r5⟩ := run_append_own_at (P := Tryz.prog) w LO 27 27 5 i0 (.int .u8 0) 1 1 Tryz.underlying27 hi0 hz0 hz1 hz2 rfl (by decide) _ 0 [] oe ad bs.length c (bts bs) (by rw [xp, Nat.mul_one]) hn (Zd bs) (by unfold maxLen; omega) (by omega) (by omega)
  obtain ⟨g', c', e⟩ := vB r2 (fun z => by have := (r4.1 z).1; cases this)
  subst e
  rw [Nat.zero_add] at r1 r2
  refine ⟨g', c', w3, r1, ?_, r3⟩
  unfold OneR
  simp only [List.append_nil]
  exact r2
theorem sub_byte {w : World} {B c p m k : Nat} {ad : Addr} {D : List Int} (h : ByteD w B ⟨some ad, c, D⟩) (hp : p + m <= D.length) (hk : m <= k) : ByteD w B ⟨some (ad.add p), k, (D.drop p).take m⟩ := by
 have sz : D.length <= 140737488355328 := h.sz
 have l : ((D.drop p).take m).length = m := Zj hp
 refine ⟨(fun z => by cases z), by show ((D.drop p).take m).length <= k; omega, by show ((D.drop p).take m).length <= _; omega, fun ne => ?_, fun b hb => h.rng b (List.mem_of_mem_drop (List.mem_of_mem_take hb))⟩
 obtain ⟨ad', e, lb, cl⟩ := h.sees (by
  intro z
  have z : D.map (Value.int .u8) = [] := z
  rw [List.map_eq_nil_iff] at z
  subst z
  exact ne (by simp))
 cases e
 refine ⟨_, rfl, by rw [z8]; exact lb, fun j u hj => ?_⟩
 rw [jD]
 refine cl (p + j) u ?_
 have hj : (((D.drop p).take m).map (Value.int .u8))[j]? = some u := hj
 have lt := (List.getElem?_eq_some_iff.1 hj).1
 rw [List.length_map, l] at lt
 rw [List.getElem?_map, List.getElem?_take, if_pos lt, List.getElem?_drop] at hj
 show (D.map (Value.int .u8))[p + j]? = some u
 rw [List.getElem?_map]
 exact hj
set_option maxHeartbeats 8000000 in
set_option maxRecDepth 100000 in
theorem QX (g : Nat) (A : Option Addr) (c : Nat) (D : List Int) (r : RdT) (m : Nat) (W : World) (R : RdS W g A c D r 82) (hm : m <= 1099511627776) : Calls Tryz.prog 47 #[.pointer (some ⟨g, 0, none⟩), .int .i64 (m : Int)] W (BytR W g A c D r m) := by
 have k0 : W.cell? ⟨g, 0, none⟩ = some (.slice A D.length c) := R.box.c 0 _ rfl
 have k1 : W.cell? ⟨g, 1, none⟩ = some (.int .i64 (r.at_ : Int)) := R.box.c 1 _ rfl
 have k2 : W.cell? ⟨g, 2, none⟩ = some (.int .i64 r.code) := R.box.c 2 _ rfl
 have hp0 : r.at_ <= D.length := R.at_
 have hD : D.length <= 140737488355328 := R.dat.sz
 have cap : D.length <= c := R.dat.cap
 have HR := zdy R
 by_cases c0 : r.code = 0
 case neg =>
  have EN : Hid (BytR W g A c D r m (.returned (.slice none 0 0)) W) := zdy ⟨by rw [kK _ c0]; exact R, Mv.refl _ W, Or.inl ⟨Or.inl c0, rfl⟩⟩
  generalize r.code = q at *
  clear R
  go_enter Tryz.func47, Tryz.ntmps47
  go_wp2_with fail
  go_ret
  exact EN.out
 rw [c0] at k2
 obtain ⟨p, hp⟩ : ∃ p, p = r.at_ := ⟨_, rfl⟩
 obtain ⟨dn, hdn⟩ : ∃ dn, dn = D.length := ⟨_, rfl⟩
 have HP := zdy hp
 have HDN := zdy hdn
 have HC0 := zdy c0
 rw [<- hp] at k1 hp0
 rw [<- hdn] at k0 hp0 hD cap
 have w1 := zdz ((dn : Int) - (p : Int)) (by omega)
 clear R hp hdn c0
 by_cases c1 : dn < p + m
 ·have c1' : (dn : Int) - (p : Int) < (m : Int) := by omega
  have EN : Hid (∀ (q : Nat) (w' : World), Bk w' g (rdV A D.length c (zr r 6 D.length)) 82 -> Mv [g] (W.drewN q) w' -> BytR W g A c D r m (.returned (.slice none 0 0)) w') := zdy (fun q w' b mv => by
   have e : (zo D r m).2 = zr r 6 D.length := by
    rw [vt HC0.out (by rw [<- HDN.out, <- HP.out]; exact c1')]
    unfold zr
    rw [if_pos HC0.out]
   refine ⟨by rw [e]; exact (HR.out.drewN q).nx mv b (by rw [zM]; exact HR.out.at_), (Mv.refl [g] W).drewN q |>.then mv, Or.inl ⟨Or.inr (by rw [<- HDN.out, <- HP.out]; exact c1), rfl⟩⟩)
  go_enter Tryz.func47, Tryz.ntmps47
  go_wp2_with fail
  refine qk 11 (by kernel_rfl) (by kernel_rfl) ?_
  simp only [zdB, zdC, zdD, zdE]
  repeat (first | go_big_quiet_step (fail) | quiet_step (fail))
  refine wpQuiet_nil ?_
  intro _ hw'
  obtain ⟨nq, hw''⟩ := hw'
  subst hw''
  have FL := xK g A D.length c r 6 D.length (W.drewN nq) (HR.out.drewN nq).box
  rw [<- HDN.out] at FL
  have FL := zdy FL
  go_wp2_with fail
  refine FL.out.mono ?_; rintro e w1 ⟨rfl, b1, m1⟩
  have EN := zdy (EN.out nq w1 (by rw [<- HDN.out]; exact b1) m1)
  clear FL b1 m1
  go_wp2_with fail
  go_ret
  exact EN.out
 ·have c1' : ¬ (dn : Int) - (p : Int) < (m : Int) := by omega
  go_enter Tryz.func47, Tryz.ntmps47
  go_wp2_with fail
  refine qk 11 (by kernel_rfl) (by kernel_rfl) ?_
  simp only [zdB, zdC, zdD, zdE]
  repeat (first | go_big_quiet_step (fail) | quiet_step (fail))
  refine wpQuiet_nil ?_
  intro _ hw'
  obtain ⟨nq, hw''⟩ := hw'
  subst hw''
  obtain ⟨V, hV⟩ : ∃ V, V = W.drewN nq := ⟨_, rfl⟩
  rw [<- hV]
  have RV : RdS V g A c D r 82 := by rw [hV]; exact HR.out.drewN nq
  have HMV : Hid (Mv [g] W V) := zdy (by rw [hV]; exact (Mv.refl [g] W).drewN nq)
  have VS : Hid (W.heap.size = V.heap.size) := zdy (by rw [hV]; rfl)
  have j0 : V.cell? ⟨g, 0, none⟩ = some (.slice A dn c) := by rw [hV]; exact k0
  have j1 : V.cell? ⟨g, 1, none⟩ = some (.int .i64 (p : Int)) := by rw [hV]; exact k1
  have gl := RV.box.lt
  have wm := zdz ((p : Int) + (m : Int)) (by omega)
  have x0 : (0 : Int) <= (p : Int) := by omega
  have x1 : (p : Int) <= (p : Int) + (m : Int) := by omega
  have x2 : (p : Int) + (m : Int) <= (c : Int) := by omega
  have HRV := zdy RV
  clear hV RV k0 k1 k2
  have HC1 := zdy (show p + m <= dn by omega)
  have ep : ((p : Int) + (m : Int)).toNat = p + m := by omega
  have es : p + m - p = m := by omega
  clear j0 j1
  cases A with
  | none =>
   have cz : c = 0 := HRV.out.dat.nil rfl
   have dz : dn = 0 := by omega
   have pz : p = 0 := by have := HC1.out; omega
   have mz : m = 0 := by have := HC1.out; omega
   have BS : ByteD V g ⟨none, c - p, []⟩ := ⟨(fun _ => by show c - p = 0; omega), Nat.zero_le _, Nat.zero_le _, Sees.nil _ _ _, fun b m => by cases m⟩
   have HMZ := zdy mz
   clear mz cz dz pz
   have HBL : Hid (([] : List Int).length = m) := zdy (by rw [HMZ.out]; rfl)
   have HBS := zdy BS
   have j0 := fun d os => (HRV.out.box.regrown d os).c 0 _ rfl
   have j1 := fun d os => (HRV.out.box.regrown d os).c 1 _ rfl
   rw [<- HDN.out] at j0
   rw [<- HP.out] at j1
   go_wp2_with fail
   refine xF 16 [(30, emS V.heap.size)] [30] (by kernel_rfl) (by kernel_rfl) (by kernel_rfl) (by intro t ht; rw [List.mem_singleton.1 ht]; intro h; cases h) ?_
   simp only [zdB, zdC, zdD, zdE]
   refine jS 30 rfl (by simp) (by first | (simp; done) | simp [zQ]) (by rfl) (by rfl) (by intro _ _ h; cases h) (fun x => ?_) ?_
   ·go_simp
    exact ⟨(Below.refl _ _).alloc zdA _, _, rfl, by simp [redrawn], by rw [show (redrawn V x.d).heap.size + x.os.size = (grow (redrawn V x.d) x.os).heap.size by simp [grow]]; exact World.alloc_heap_new _ _⟩
   repeat (refine xk (by rfl) (fun K hK => ?_); go_simp; first | (refine hK _ ?_; clear hK K) | (apply Exists.intro; refine ⟨fun _ => ?_, hK _ ?_⟩; (fail); clear hK K))
   refine xE ?_
   intro W5 vs5 hl5 hv5
   obtain ⟨gE, e30, lE, hE⟩ := hv5 30 (by simp) rfl
   simp only [zR, e30]
   have b5 := jC.1 hl5
   obtain ⟨g', c3, w3, RC, O3, G3⟩ := QW (HBS.out.below b5 (Nat.le_of_lt gl)) hE (Nat.le_trans (by rw [VS.out]; exact zdA) lE : W.heap.size <= gE) 0
   have b3 : Below V.heap.size V w3 := b5.grown G3 b5.size (fun q hq => by injection hq with hq; omega)
   have R3 := HRV.out.nx (Mv.below b3) (HRV.out.box.of_eq (b3.block _ gl)) HRV.out.at_
   have y1 : w3.cell? ⟨g, 1, none⟩ = some (.int .i64 (p : Int)) := by rw [HP.out]; exact R3.box.c 1 _ rfl
   have yf := R3.box.f 1
   have FIN : Hid (BytR W g none c D r m (.returned (.slice (some ⟨g', 0, none⟩) m c3)) (w3.setCell ⟨g, 1, none⟩ (.int .i64 ((p : Int) + (m : Int))))) := zdy (by
    have tr := jO (D := D) (n := m) HC0.out (show r.at_ + m <= D.length by rw [<- HP.out, <- HDN.out]; exact HC1.out)
    have b2 := R3.box.set 1 (.int .i64 ((p : Int) + (m : Int)))
    have mm : Mv [g] w3 (w3.setCell ⟨g, 1, none⟩ (.int .i64 ((p : Int) + (m : Int)))) := Mv.set _ (by simp)
    have g3 : g' ≠ g := fun z => by have := O3.lt.1; have : W.heap.size <= g' := this; have := VS.out; omega
    have e4 : (rdV none D.length c r).set 1 (.int .i64 ((p : Int) + (m : Int))) = rdV none D.length c ⟨r.at_ + m, 0, r.spot⟩ := by
     rw [HP.out, show ((r.at_ : Int) + (m : Int)) = ((r.at_ + m : Nat) : Int) by simp]
     unfold rdV
     simp [HC0.out]
    rw [e4] at b2
    refine ⟨by rw [tr]; exact R3.nx mm b2 (by show r.at_ + m <= D.length; rw [<- HP.out, <- HDN.out]; exact HC1.out), HMV.out.then ((Mv.below b3).then mm), Or.inr ⟨⟨HC0.out, by rw [<- HP.out, <- HDN.out]; exact HC1.out⟩, g', c3, rfl, ?_⟩⟩
    rw [<- HP.out]
    have z0 : (D.drop p).take m = [] := by rw [HMZ.out]; rfl
    rw [z0]
    exact O3.keep (heap_setCell_other _ _ _ _ g3))
   clear b5 hl5 hv5 e30 lE hE O3 G3 b3 R3 HBS j0 j1
   rw [HBL.out] at RC
   go_wp2_with (first | (at_builtin; refine xo rfl (.tmp 30) (.tmp 45) 27 27 rfl _ _ _ _ rfl rfl RC ?_) | fail)
   go_ret
   exact FIN.out
  | some ad =>
   by_cases cp : c = p
   ·have mz : m = 0 := by have := HC1.out; omega
    have BS : ByteD V g ⟨some ad, c - p, []⟩ := ⟨(fun z => by cases z), Nat.zero_le _, Nat.zero_le _, Sees.nil _ _ _, fun b m => by cases m⟩
    have HMZ := zdy mz
    clear mz
    have q : (if c = p then some ad else some (ad.add p)) = some ad := if_pos cp
    have HQ := zdy q
    have HCP := zdy cp
    clear q cp
    have HBL : Hid (([] : List Int).length = m) := zdy (by rw [HMZ.out]; rfl)
    have HBS := zdy BS
    have j0 := fun d os => (HRV.out.box.regrown d os).c 0 _ rfl
    have j1 := fun d os => (HRV.out.box.regrown d os).c 1 _ rfl
    rw [<- HDN.out] at j0
    rw [<- HP.out] at j1
    go_wp2_with fail
    refine xF 16 [(30, emS V.heap.size)] [30] (by kernel_rfl) (by kernel_rfl) (by kernel_rfl) (by intro t ht; rw [List.mem_singleton.1 ht]; intro h; cases h) ?_
    simp only [zdB, zdC, zdD, zdE]
    refine jS 30 rfl (by simp) (by first | (simp; done) | simp [zQ]) (by rfl) (by rfl) (by intro _ _ h; cases h) (fun x => ?_) ?_
    ·go_simp
     exact ⟨(Below.refl _ _).alloc zdA _, _, rfl, by simp [redrawn], by rw [show (redrawn V x.d).heap.size + x.os.size = (grow (redrawn V x.d) x.os).heap.size by simp [grow]]; exact World.alloc_heap_new _ _⟩
    repeat (refine xk (by rfl) (fun K hK => ?_); go_simp; first | (refine hK _ ?_; clear hK K) | (apply Exists.intro; refine ⟨fun _ => ?_, hK _ ?_⟩; (fail); clear hK K))
    refine xE ?_
    intro W5 vs5 hl5 hv5
    obtain ⟨gE, e30, lE, hE⟩ := hv5 30 (by simp) rfl
    simp only [zR, e30]
    have b5 := jC.1 hl5
    obtain ⟨g', c3, w3, RC, O3, G3⟩ := QW (HBS.out.below b5 (Nat.le_of_lt gl)) hE (Nat.le_trans (by rw [VS.out]; exact zdA) lE : W.heap.size <= gE) 0
    have b3 : Below V.heap.size V w3 := b5.grown G3 b5.size (fun q hq => by injection hq with hq; omega)
    have R3 := HRV.out.nx (Mv.below b3) (HRV.out.box.of_eq (b3.block _ gl)) HRV.out.at_
    have y1 : w3.cell? ⟨g, 1, none⟩ = some (.int .i64 (p : Int)) := by rw [HP.out]; exact R3.box.c 1 _ rfl
    have yf := R3.box.f 1
    have FIN : Hid (BytR W g (some ad) c D r m (.returned (.slice (some ⟨g', 0, none⟩) m c3)) (w3.setCell ⟨g, 1, none⟩ (.int .i64 ((p : Int) + (m : Int))))) := zdy (by
     have tr := jO (D := D) (n := m) HC0.out (show r.at_ + m <= D.length by rw [<- HP.out, <- HDN.out]; exact HC1.out)
     have b2 := R3.box.set 1 (.int .i64 ((p : Int) + (m : Int)))
     have mm : Mv [g] w3 (w3.setCell ⟨g, 1, none⟩ (.int .i64 ((p : Int) + (m : Int)))) := Mv.set _ (by simp)
     have g3 : g' ≠ g := fun z => by have := O3.lt.1; have : W.heap.size <= g' := this; have := VS.out; omega
     have e4 : (rdV (some ad) D.length c r).set 1 (.int .i64 ((p : Int) + (m : Int))) = rdV (some ad) D.length c ⟨r.at_ + m, 0, r.spot⟩ := by
      rw [HP.out, show ((r.at_ : Int) + (m : Int)) = ((r.at_ + m : Nat) : Int) by simp]
      unfold rdV
      simp [HC0.out]
     rw [e4] at b2
     refine ⟨by rw [tr]; exact R3.nx mm b2 (by show r.at_ + m <= D.length; rw [<- HP.out, <- HDN.out]; exact HC1.out), HMV.out.then ((Mv.below b3).then mm), Or.inr ⟨⟨HC0.out, by rw [<- HP.out, <- HDN.out]; exact HC1.out⟩, g', c3, rfl, ?_⟩⟩
     rw [<- HP.out]
     have z0 : (D.drop p).take m = [] := by rw [HMZ.out]; rfl
     rw [z0]
     exact O3.keep (heap_setCell_other _ _ _ _ g3))
    clear b5 hl5 hv5 e30 lE hE O3 G3 b3 R3 HBS j0 j1
    rw [HBL.out, <- HQ.out] at RC
    go_wp2_with (first | (at_builtin; refine xo rfl (.tmp 30) (.tmp 45) 27 27 rfl _ _ _ _ rfl rfl RC ?_) | fail)
    go_ret
    have F := FIN.out
    rw [HCP.out] at F
    exact F
   ·have BS := sub_byte (k := c - p) (HRV.out.dat) (show r.at_ + m <= D.length by rw [<- HP.out, <- HDN.out]; exact HC1.out) (by have := HC1.out; omega)
    rw [<- HP.out] at BS
    have bl : ((D.drop p).take m).length = m := Zj (by rw [<- HDN.out]; exact HC1.out)
    have HBL := zdy bl
    clear bl
    have HBS := zdy BS
    have j0 := fun d os => (HRV.out.box.regrown d os).c 0 _ rfl
    have j1 := fun d os => (HRV.out.box.regrown d os).c 1 _ rfl
    rw [<- HDN.out] at j0
    rw [<- HP.out] at j1
    go_wp2_with fail
    refine xF 16 [(30, emS V.heap.size)] [30] (by kernel_rfl) (by kernel_rfl) (by kernel_rfl) (by intro t ht; rw [List.mem_singleton.1 ht]; intro h; cases h) ?_
    simp only [zdB, zdC, zdD, zdE]
    refine jS 30 rfl (by simp) (by first | (simp; done) | simp [zQ]) (by rfl) (by rfl) (by intro _ _ h; cases h) (fun x => ?_) ?_
    ·go_simp
     exact ⟨(Below.refl _ _).alloc zdA _, _, rfl, by simp [redrawn], by rw [show (redrawn V x.d).heap.size + x.os.size = (grow (redrawn V x.d) x.os).heap.size by simp [grow]]; exact World.alloc_heap_new _ _⟩
    repeat (refine xk (by rfl) (fun K hK => ?_); go_simp; first | (refine hK _ ?_; clear hK K) | (apply Exists.intro; refine ⟨fun _ => ?_, hK _ ?_⟩; (fail); clear hK K))
    refine xE ?_
    intro W5 vs5 hl5 hv5
    obtain ⟨gE, e30, lE, hE⟩ := hv5 30 (by simp) rfl
    simp only [zR, e30]
    have b5 := jC.1 hl5
    obtain ⟨g', c3, w3, RC, O3, G3⟩ := QW (HBS.out.below b5 (Nat.le_of_lt gl)) hE (Nat.le_trans (by rw [VS.out]; exact zdA) lE : W.heap.size <= gE) 0
    have b3 : Below V.heap.size V w3 := b5.grown G3 b5.size (fun q hq => by injection hq with hq; omega)
    have R3 := HRV.out.nx (Mv.below b3) (HRV.out.box.of_eq (b3.block _ gl)) HRV.out.at_
    have y1 : w3.cell? ⟨g, 1, none⟩ = some (.int .i64 (p : Int)) := by rw [HP.out]; exact R3.box.c 1 _ rfl
    have yf := R3.box.f 1
    have FIN : Hid (BytR W g (some ad) c D r m (.returned (.slice (some ⟨g', 0, none⟩) m c3)) (w3.setCell ⟨g, 1, none⟩ (.int .i64 ((p : Int) + (m : Int))))) := zdy (by
     have tr := jO (D := D) (n := m) HC0.out (show r.at_ + m <= D.length by rw [<- HP.out, <- HDN.out]; exact HC1.out)
     have b2 := R3.box.set 1 (.int .i64 ((p : Int) + (m : Int)))
     have mm : Mv [g] w3 (w3.setCell ⟨g, 1, none⟩ (.int .i64 ((p : Int) + (m : Int)))) := Mv.set _ (by simp)
     have g3 : g' ≠ g := fun z => by have := O3.lt.1; have : W.heap.size <= g' := this; have := VS.out; omega
     have e4 : (rdV (some ad) D.length c r).set 1 (.int .i64 ((p : Int) + (m : Int))) = rdV (some ad) D.length c ⟨r.at_ + m, 0, r.spot⟩ := by
      rw [HP.out, show ((r.at_ : Int) + (m : Int)) = ((r.at_ + m : Nat) : Int) by simp]
      unfold rdV
      simp [HC0.out]
     rw [e4] at b2
     refine ⟨by rw [tr]; exact R3.nx mm b2 (by show r.at_ + m <= D.length; rw [<- HP.out, <- HDN.out]; exact HC1.out), HMV.out.then ((Mv.below b3).then mm), Or.inr ⟨⟨HC0.out, by rw [<- HP.out, <- HDN.out]; exact HC1.out⟩, g', c3, rfl, ?_⟩⟩
     rw [<- HP.out]
     skip
     exact O3.keep (heap_setCell_other _ _ _ _ g3))
    clear b5 hl5 hv5 e30 lE hE O3 G3 b3 R3 HBS j0 j1
    simp only [HBL.out] at RC
    go_wp2_with (first | (at_builtin; refine xo rfl (.tmp 30) (.tmp 45) 27 27 rfl _ _ _ _ rfl rfl RC ?_) | fail)
    go_ret
    exact FIN.out
end
end
end Go.Proofs.YtmaofighbpnbiaaGreatDoor
