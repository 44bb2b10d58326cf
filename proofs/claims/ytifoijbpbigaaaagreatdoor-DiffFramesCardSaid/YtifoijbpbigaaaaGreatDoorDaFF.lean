/- What lies below tapes (kept of earlier texts: RaH, RaB, RaC, RaD, RaE, RaI, RaJ, RaL, RaM, RaN). -/
import Derived.Test.YtifoijbpbigaaaaGreatDoorDaFE
import Derived.Lib.AppendStr
set_option linter.unusedVariables false
set_option linter.unusedSimpArgs false
namespace Go.Proofs.YtifoijbpbigaaaaGreatDoor
section
open Go Go.RowKit Go.Sort
section
set_option maxHeartbeats 32000000 in
set_option maxRecDepth 100000 in
theorem XJ (A : Option Addr) (c : Nat) (l : List Int) (hne : l ≠ []) (hl : l.length <= 35184372000000) (w : World) (S : Sees w w.heap.size A (rns l)) :
  Calls Tryz.prog 127 #[.slice A l.length c] w fun e w' => e = .returned (.int .i64 (zp l : Int)) /\ Below w.heap.size w w' := by
 have pos : 0 < l.length := List.length_pos_iff.2 hne
 have F1 := Vd (fun (k : Nat) (hk : k < l.length) => jd S k hk)
 obtain ⟨ad, rfl, hab, c0⟩ := jd S 0 pos
 have ad0 : ad.add 0 = ad := by unfold Addr.add; rw [if_pos rfl]
 rw [ad0] at c0
 have CK := Vd (fun (k : Nat) (h : k < l.length) (W : World) (hb : Below w.heap.size w W) => show W.cell? (ad.add k) = some (.int .i32 (l.getD k 0)) from by
  obtain ⟨a2, e, _, h2⟩ := jd S k h
  cases e
  exact (hb.cell (p := ad.add k) (by rw [zj]; exact hab)).trans h2)
 have K0 := Vd (xu (l.getD 0 0) w)
 have K1 := Vd (fun W => xu (l.getD 1 0) W)
 have rk := j4 (l.getD 0 0)
 have RK := Vd rk
 have TK := Vd (fun a b W => XI (za (l.getD 0 0)) rk.1 rk.2 a b W)
 have FC : Hid (zp l = if za (l.getD 0 0) = 1 then 1 else zF l (za (l.getD 0 0)) (16 - qu l) (qu l)) := Vd rfl
 have BK : Hid (qu l = if za (l.getD 0 0) = 6 /\ 1 < l.length /\ za (l.getD 1 0) = 6 then 2 else 1) := Vd rfl
 have GG : Hid (∀ f n, zF l (za (l.getD 0 0)) (f + 1) n = if n < l.length /\ qF (za (l.getD 0 0)) (l.getD (n - 1) 0) (l.getD n 0) = true then zF l (za (l.getD 0 0)) f (n + 1) else n) := Vd (Qd l _)
 have G0 : Hid (∀ n, zF l (za (l.getD 0 0)) 0 n = n) := Vd (fun n => rfl)
 generalize zp l = F at *
 generalize qu l = B0 at *
 generalize za (l.getD 0 0) = kd at *
 generalize za (l.getD 1 0) = k1 at *
 generalize l.getD 0 0 = r0 at *
 generalize zF l kd = GR at *
 obtain ⟨n, hn⟩ : ∃ n, n = l.length := ⟨_, rfl⟩
 rw [<- hn] at pos hl F1 CK BK GG ⊢
 have pos' : (0 : Int) < (n : Int) := by omega
 clear S hne hn
 by_cases k1e : kd = 1
 ·have R := Vd (show F = 1 by rw [FC.out, if_pos k1e])
  have e1 : (kd == 1) = true := by rw [k1e]; rfl
  clear k1e
  go_enter Tryz.func127, Tryz.ntmps127
  go_wp2_with fail
  refine K0.out.mono ?_; rintro e w1 ⟨rfl, hb1⟩
  have HB := Vd hb1
  clear hb1
  go_wp2_with fail
  go_ret
  exact ⟨by rw [R.out]; rfl, HB.out⟩
 have R := Vd (show GR (16 - B0) B0 = F by rw [FC.out, if_neg k1e])
 have e1 : (kd == 1) = false := by rw [beq_eq_false_iff_ne]; exact k1e
 clear k1e FC
 go_enter Tryz.func127, Tryz.ntmps127
 go_wp2_with fail
 refine K0.out.mono ?_; rintro e w1 ⟨rfl, hb1⟩
 have HB := Vd hb1
 clear hb1 K0
 go_upto_region 5 with fail
 go_cut [19] from 13 to 19 (fun s19 wx => s19 = .bool (decide (kd = 6 /\ 1 < n)) /\ wx = w1)
 case first =>
  by_cases e6 : kd = 6
  ·have e6' : (kd == 6) = true := by rw [e6]; rfl
   by_cases n1 : 1 < n
   ·have n1' : (1 : Int) < (n : Int) := by omega
    have RR := Vd (show decide (kd = 6 /\ 1 < n) = true from decide_eq_true ⟨e6, n1⟩)
    clear e6
    go_wp2_with fail
    go_meet
    exact ⟨by rw [RR.out], rfl⟩
   ·have n1' : ¬ (1 : Int) < (n : Int) := by omega
    have RR := Vd (show decide (kd = 6 /\ 1 < n) = false from decide_eq_false (fun z => n1 z.2))
    clear e6
    go_wp2_with fail
    go_meet
    exact ⟨by rw [RR.out], rfl⟩
  ·have e6' : (kd == 6) = false := by rw [beq_eq_false_iff_ne]; exact e6
   have RR := Vd (show decide (kd = 6 /\ 1 < n) = false from decide_eq_false (fun z => e6 z.1))
   go_wp2_with fail
   go_meet
   exact ⟨by rw [RR.out], rfl⟩
 case rest =>
 obtain ⟨rfl, hwc⟩ := hcut
 rw [hwc]
 clear hwc
 obtain ⟨D, hD⟩ : ∃ D, D = decide (kd = 6 /\ 1 < n) := ⟨_, rfl⟩
 rw [<- hD]
 have HD := Vd hD
 clear hD
 go_upto_if 19 with fail
 go_cut [4] from 19 to 25 (fun s4 wx => s4 = .int .i64 (B0 : Int) /\ Hid (Below w.heap.size w wx))
 case first =>
  cases D with
  | false =>
   have RR := Vd (show B0 = 1 by rw [BK.out, if_neg (fun z => (of_decide_eq_false HD.out.symm) ⟨z.1, z.2.1⟩)])
   go_wp2_with fail
   go_meet
   exact ⟨by rw [RR.out]; rfl, HB⟩
  | true =>
   have dd := of_decide_eq_true HD.out.symm
   have n1 : (1 : Int) < (n : Int) := by omega
   have cx := CK.out 1 dd.2 w1 HB.out
   rw [<- qi ad 1 (by decide)] at cx
   have K1 := Vd (K1.out w1)
   generalize l.getD 1 0 = r1 at *
   by_cases e6 : k1 = 6
   ·have RR := Vd (show B0 = 2 by rw [BK.out, if_pos ⟨dd.1, dd.2, e6⟩])
    have e6' : (k1 == 6) = true := by rw [e6]; rfl
    clear e6 dd
    go_wp2_with fail
    refine K1.out.mono ?_; rintro e w2 ⟨rfl, hb2⟩
    have HB2 := Vd (HB.out.trans (hb2.mono HB.out.size))
    clear hb2
    go_wp2_with fail
    go_meet
    exact ⟨by rw [RR.out]; rfl, HB2⟩
   ·have RR := Vd (show B0 = 1 by rw [BK.out, if_neg (fun z => e6 z.2.2)])
    have e6' : (k1 == 6) = false := by rw [beq_eq_false_iff_ne]; exact e6
    clear e6 dd
    go_wp2_with fail
    refine K1.out.mono ?_; rintro e w2 ⟨rfl, hb2⟩
    have HB2 := Vd (HB.out.trans (hb2.mono HB.out.size))
    clear hb2
    go_wp2_with fail
    go_meet
    exact ⟨by rw [RR.out]; rfl, HB2⟩
 case rest =>
 obtain ⟨rfl, hB⟩ := hcut
 obtain ⟨W2, hW⟩ : ∃ W2, W2 = wc := ⟨_, rfl⟩
 rw [<- hW] at hB ⊢
 clear hW HB HD
 have b12 : 1 <= B0 /\ B0 <= 2 := by rw [BK.out]; split <;> decide
 clear BK K1
 go_wp2_with fail
 go_loopw [4] (fun s4 wr => ∃ (k f : Nat), 1 <= k /\ k + f = 16 /\ s4 = .int .i64 (k : Int) /\ Hid (GR f k = F) /\ Hid (Below w.heap.size w wr)) (fun s4 _ => 16 - (intOf s4).toNat)
 case atStart => exact ⟨B0, 16 - B0, b12.1, by omega, rfl, R, hB⟩
 case round =>
  obtain ⟨k, f, hk, hkf, rfl, hI, hb⟩ := hrel
  clear hB b12 R
  by_cases c1 : k < n
  ·have c1' : (k : Int) < (n : Int) := by omega
   by_cases c2 : k < 16
   ·have c2' : (k : Int) < 16 := by omega
    obtain ⟨f', rfl⟩ : ∃ f', f = f' + 1 := ⟨f - 1, by omega⟩
    have ST := hI.out
    rw [GG.out] at ST
    have BD := Vd (fun q => j5 q wr hb.out)
    have xa := fun q => CK.out (k - 1) (by omega) (wr.drewN q) (BD.out q)
    have xb := fun q => CK.out k c1 (wr.drewN q) (BD.out q)
    have TQ := Vd (fun q => TK.out (l.getD (k - 1) 0) (l.getD k 0) (wr.drewN q))
    generalize qF kd (l.getD (k - 1) 0) (l.getD k 0) = T at *
    generalize l.getD (k - 1) 0 = ra at *
    generalize l.getD k 0 = rb at *
    have ST := Vd ST
    have wk1 := Ve ((k : Int) - 1) (by omega)
    have wk := Ve ((k : Int) + 1) (by omega)
    have p0 : (0 : Int) <= (k : Int) - 1 := by omega
    have p1 : (k : Int) - 1 < (n : Int) := by omega
    have p2 : ((k : Int) - 1).toNat = k - 1 := by omega
    have p3 : (0 : Int) <= (k : Int) := by omega
    have p4 : (k : Int).toNat = k := by omega
    clear hI
    go_wp2_with fail
    refine qP 10 (by kernel_rfl) (by kernel_rfl) ?_
    simp only [Vg, Vh, Vi, Vj]
    repeat (first | go_big_quiet_step (fail) | quiet_step (fail))
    refine wpQuiet_nil ?_
    intro _ hw'
    obtain ⟨nq, hw''⟩ := hw'
    subst hw''
    have TQ := Vd (TQ.out nq)
    have hb := Vd (BD.out nq)
    clear xa xb BD
    generalize wr.drewN nq = V at *
    go_wp2_with fail
    refine TQ.out.mono ?_; rintro e w3 ⟨rfl, hb3⟩
    have HB3 := Vd (hb.out.trans (hb3.mono hb.out.size))
    clear hb3 TQ
    cases T with
    | false =>
     have RR := Vd (show k = F by rw [<- ST.out, if_neg (fun z => by cases z.2)])
     go_wp2_with fail
     go_ret
     exact ⟨by rw [<- RR.out]; rfl, HB3.out⟩
    | true =>
     have NX := Vd (show GR f' (k + 1) = F by rw [<- ST.out, if_pos ⟨c1, rfl⟩])
     go_wp2_with fail
     go_roundw
     case rel => exact ⟨k + 1, f', by omega, by omega, by go_num, NX, HB3⟩
     case measure => simp [intOf]; omega
   ·have c2' : ¬ (k : Int) < 16 := by omega
    have RR := Vd (show k = F by
     have z : f = 0 := by omega
     rw [<- hI.out, z, G0.out])
    go_wp2_with fail
    go_ret
    exact ⟨by rw [<- RR.out]; rfl, hb.out⟩
  ·have c1' : ¬ (k : Int) < (n : Int) := by omega
   have RR := Vd (show k = F by
    rw [<- hI.out]
    cases f with
    | zero => rw [G0.out]
    | succ f => rw [GG.out, if_neg (fun z => c1 z.1)])
   go_wp2_with fail
   go_ret
   exact ⟨by rw [<- RR.out]; rfl, hb.out⟩
end
end
section
open Go Go.RowKit Go.Sort
section
theorem str_at (t : ByteArray) (i : Nat) (hi : i < t.size) : ∀ W, (Instr.index 9 (.string t) (.int .i64 (i : Int))).run Tryz.prog W = .ok (.int .u8 (byt t i : Int)) W := fun W => by
 rw [run_index_string _ _ _ _ _ Tryz.underlying9, dif_pos (by omega)]
 unfold byt
 rw [get_at t i hi]
 rfl
set_option maxHeartbeats 16000000 in
set_option maxRecDepth 100000 in
theorem ref_fits (t : ByteArray) (ht : t.size <= 1000000000000000) (x : RwT) (hn : x.n <= 4) (w : World) : Calls Tryz.prog 139 #[.string t, .agg #[.int .i64 (x.lo : Int), .int .i64 (x.hi : Int), .int .i64 (x.n : Int), .int .i64 (x.lo2 : Int), .int .i64 (x.hi2 : Int), .int .i64 (x.off : Int)]] w fun e w' => e = .returned (.int .i64 (zW t x : Int)) /\ Below w.heap.size w w' := by
 obtain ⟨Q, hQ⟩ : ∃ Q, Q = w.alloc (.cells #[.int .i64 (x.lo : Int), .int .i64 (x.hi : Int), .int .i64 (x.n : Int), .int .i64 (x.lo2 : Int), .int .i64 (x.hi2 : Int), .int .i64 (x.off : Int)] 182) := ⟨_, rfl⟩
 have BQ : Below w.heap.size w Q := by rw [hQ]; exact (Below.refl _ w).alloc Vf _
 have KQ : Bq Q w.heap.size [.int .i64 (x.lo : Int), .int .i64 (x.hi : Int), .int .i64 (x.n : Int), .int .i64 (x.lo2 : Int), .int .i64 (x.hi2 : Int), .int .i64 (x.off : Int)] := by rw [hQ]; exact Bq.new w _ _
 have FT : Hid (zW t x = if t.size = 0 \/ byt t 0 < x.lo \/ x.hi < byt t 0 then 0 else zD t x 4 1) := Vd rfl
 have FK : Hid (∀ f k, zD t x (f + 1) k = if k < x.n /\ k < t.size then (if byt t k < loR x k \/ hiR x k < byt t k then k else zD t x f (k + 1)) else k) := Vd (fun f k => rfl)
 have F0 : Hid (∀ k, zD t x 0 k = k) := Vd (fun k => rfl)
 have LR : Hid (∀ k, loR x k = if k = 1 then x.lo2 else 128) := Vd (fun k => rfl)
 have HR : Hid (∀ k, hiR x k = if k = 1 then x.hi2 else 191) := Vd (fun k => rfl)
 have HQ := Vd hQ
 have HB := Vd BQ
 have HK := Vd KQ
 have IX := Vd (str_at t)
 generalize zW t x = F at *
 generalize zD t x = FX at *
 generalize loR x = lx at *
 generalize hiR x = hx at *
 obtain ⟨lo, hi, n, lo2, hi2, off⟩ := x
 dsimp only at *
 clear hQ BQ KQ
 have DW := Vd (fun W q (h : Below w.heap.size w W) => j5 q W h)
 go_enter Tryz.func139, Tryz.ntmps139
 go_upto_region 1 with fail
 rw [<- HQ.out]
 clear HQ
 have k0 := HK.out.c 0 _ rfl
 have k1 := HK.out.c 1 _ rfl
 by_cases z : t.size = 0
 ·have R := Vd (show F = 0 by rw [FT.out, if_pos (Or.inl z)])
  have zs : ((t.size : Int) == 0) = true := by simp [z]
  refine qP 18 (by kernel_rfl) (by kernel_rfl) ?_
  simp only [Vg, Vh, Vi, Vj]
  repeat (first | go_big_quiet_step (fail) | quiet_step (fail))
  refine wpQuiet_nil ?_
  intro _ hw'
  obtain ⟨nq, hw''⟩ := hw'
  subst hw''
  go_wp2_with fail
  go_ret
  exact ⟨by rw [R.out]; rfl, DW.out _ _ HB.out⟩
 have zs : ((t.size : Int) == 0) = false := by rw [beq_eq_false_iff_ne]; omega
 have ix0 := IX.out 0 (by omega)
 have ix0 : ∀ W, (Instr.index 9 (.string t) (.int .i64 0)).run Tryz.prog W = .ok (.int .u8 (byt t 0 : Int)) W := ix0
 have b256 := jh t 0
 generalize byt t 0 = b at *
 by_cases c1 : b < lo
 ·have R := Vd (show F = 0 by rw [FT.out, if_pos (Or.inr (Or.inl c1))])
  have c1' : (b : Int) < (lo : Int) := by omega
  refine qP 18 (by kernel_rfl) (by kernel_rfl) ?_
  simp only [Vg, Vh, Vi, Vj]
  repeat (first | go_big_quiet_step (fail) | quiet_step (fail))
  refine wpQuiet_nil ?_
  intro _ hw'
  obtain ⟨nq, hw''⟩ := hw'
  subst hw''
  go_wp2_with fail
  go_ret
  exact ⟨by rw [R.out]; rfl, DW.out _ _ HB.out⟩
 have c1' : ¬ (b : Int) < (lo : Int) := by omega
 by_cases c2 : hi < b
 ·have R := Vd (show F = 0 by rw [FT.out, if_pos (Or.inr (Or.inr c2))])
  have c2' : (hi : Int) < (b : Int) := by omega
  refine qP 18 (by kernel_rfl) (by kernel_rfl) ?_
  simp only [Vg, Vh, Vi, Vj]
  repeat (first | go_big_quiet_step (fail) | quiet_step (fail))
  refine wpQuiet_nil ?_
  intro _ hw'
  obtain ⟨nq, hw''⟩ := hw'
  subst hw''
  go_wp2_with fail
  go_ret
  exact ⟨by rw [R.out]; rfl, DW.out _ _ HB.out⟩
 have c2' : ¬ (hi : Int) < (b : Int) := by omega
 have R := Vd (show FX 4 1 = F by rw [FT.out, if_neg (by omega)])
 refine qP 18 (by kernel_rfl) (by kernel_rfl) ?_
 simp only [Vg, Vh, Vi, Vj]
 repeat (first | go_big_quiet_step (fail) | quiet_step (fail))
 refine wpQuiet_nil ?_
 intro _ hw'
 obtain ⟨nq, hw''⟩ := hw'
 subst hw''
 have KW := Vd (HK.out.draw nq)
 have BW := Vd (DW.out _ nq HB.out)
 generalize Q.drewN nq = V at *
 have HTS : Hid (t.size <= 1000000000000000) := Vd ht
 clear k0 k1 ix0 z zs c1 c2 c1' c2' FT
 go_wp2_with fail
 go_loopw [5] (fun s5 wr => ∃ (k f : Nat), 1 <= k /\ k + f = 5 /\ s5 = .int .i64 (k : Int) /\ Hid (FX f k = F) /\ Hid (Bq wr w.heap.size [.int .i64 (lo : Int), .int .i64 (hi : Int), .int .i64 (n : Int), .int .i64 (lo2 : Int), .int .i64 (hi2 : Int), .int .i64 (off : Int)]) /\ Hid (Below w.heap.size w wr)) (fun s5 _ => 5 - (intOf s5).toNat)
 case atStart => exact ⟨1, 4, Vf, rfl, rfl, R, KW, BW⟩
 case round =>
  obtain ⟨k, f, hk1, hkf, rfl, hI, hK, hb⟩ := hrel
  clear KW BW
  have z2 := hK.out.c 2 _ rfl
  by_cases lt : k < n
  ·have lt' : (k : Int) < (n : Int) := by omega
   by_cases ls : k < t.size
   ·have ls' : (k : Int) < (t.size : Int) := by omega
    have ix := IX.out k ls
    obtain ⟨f', rfl⟩ : ∃ f', f = f' + 1 := ⟨f - 1, by omega⟩
    have ST := hI.out
    rw [FK.out, if_pos ⟨lt, ls⟩, LR.out, HR.out] at ST
    have ST := Vd ST
    have wk := Ve ((k : Int) + 1) (by omega)
    have v256 := jh t k
    have bx : Hid (byt t k < 256) := Vd v256
    generalize byt t k = v at *
    by_cases k1 : k = 1
    ·have e1 : ((k : Int) == 1) = true := by rw [k1]; rfl
     rw [if_pos k1, if_pos k1] at ST
     clear k1
     have z3 := fun q => (hK.out.draw q).c 3 _ rfl
     have z4 := fun q => (hK.out.draw q).c 4 _ rfl
     go_wp2_with fail
     refine qP 5 (by kernel_rfl) (by kernel_rfl) ?_
     simp only [Vg, Vh, Vi, Vj]
     repeat (first | go_big_quiet_step (fail) | quiet_step (fail))
     refine wpQuiet_nil ?_
     intro _ hw'
     obtain ⟨nq2, hw''⟩ := hw'
     subst hw''
     have hK := Vd (hK.out.draw nq2)
     have hb := Vd (DW.out _ nq2 hb.out)
     generalize wr.drewN nq2 = V2 at *
     by_cases d1 : v < lo2
     ·have d1' : (v : Int) < (lo2 : Int) := by omega
      have RR := Vd (show (k : Nat) = F by rw [<- ST.out, if_pos (Or.inl d1)])
      go_wp2_with fail
      go_ret
      exact ⟨by rw [<- RR.out]; rfl, hb.out⟩
     ·have d1' : ¬ (v : Int) < (lo2 : Int) := by omega
      by_cases d2 : hi2 < v
      ·have d2' : (hi2 : Int) < (v : Int) := by omega
       have RR := Vd (show (k : Nat) = F by rw [<- ST.out, if_pos (Or.inr d2)])
       go_wp2_with fail
       go_ret
       exact ⟨by rw [<- RR.out]; rfl, hb.out⟩
      ·have d2' : ¬ (hi2 : Int) < (v : Int) := by omega
       have NX := Vd (show FX f' (k + 1) = F by rw [<- ST.out, if_neg (by omega)])
       go_wp2_with fail
       go_roundw
       case rel => exact ⟨k + 1, f', by omega, by omega, by go_num, NX, hK, hb⟩
       case measure => simp [intOf]; omega
    ·have e1 : ((k : Int) == 1) = false := by rw [beq_eq_false_iff_ne]; omega
     rw [if_neg k1, if_neg k1] at ST
     by_cases d1 : v < 128
     ·have d1' : (v : Int) < 128 := by omega
      have RR := Vd (show (k : Nat) = F by rw [<- ST.out, if_pos (Or.inl d1)])
      go_wp2_with fail
      go_ret
      exact ⟨by rw [<- RR.out]; rfl, hb.out⟩
     ·have d1' : ¬ (v : Int) < 128 := by omega
      by_cases d2 : 191 < v
      ·have d2' : (191 : Int) < (v : Int) := by omega
       have RR := Vd (show (k : Nat) = F by rw [<- ST.out, if_pos (Or.inr d2)])
       go_wp2_with fail
       go_ret
       exact ⟨by rw [<- RR.out]; rfl, hb.out⟩
      ·have d2' : ¬ (191 : Int) < (v : Int) := by omega
       have NX := Vd (show FX f' (k + 1) = F by rw [<- ST.out, if_neg (by omega)])
       go_wp2_with fail
       go_roundw
       case rel => exact ⟨k + 1, f', by omega, by omega, by go_num, NX, hK, hb⟩
       case measure => simp [intOf]; omega
   ·have ls' : ¬ (k : Int) < (t.size : Int) := by omega
    have RR := Vd (show (k : Nat) = F by
     rw [<- hI.out]
     cases f with
     | zero => omega
     | succ f => rw [FK.out, if_neg (by omega)])
    go_wp2_with fail
    go_ret
    exact ⟨by rw [<- RR.out]; rfl, hb.out⟩
  ·have lt' : ¬ (k : Int) < (n : Int) := by omega
   have RR := Vd (show (k : Nat) = F by
    rw [<- hI.out]
    cases f with
    | zero => rw [F0.out]
    | succ f => rw [FK.out, if_neg (by omega)])
   go_wp2_with fail
   go_ret
   exact ⟨by rw [<- RR.out]; rfl, hb.out⟩
end
end
section
open Go Go.RowKit Go.Sort
section
theorem rows_ok : ∀ x ∈ qC, x.n <= 4 /\ x.off <= 255 := by
 intro x m
 unfold qC at m
 simp only [List.mem_cons, List.not_mem_nil, or_false] at m
 rcases m with rfl | rfl | rfl | rfl | rfl | rfl | rfl | rfl | rfl <;> exact ⟨by decide, by decide⟩
def SeesW (w : World) (g : Nat) (L : List RwT) : Prop := ∀ j, (hj : j < L.length) -> w.cell? ⟨g, j * 6, none⟩ = some (.int .i64 ((L[j]).lo : Int)) /\ w.cell? ⟨g, j * 6 + 1, none⟩ = some (.int .i64 ((L[j]).hi : Int)) /\ w.cell? ⟨g, j * 6 + 2, none⟩ = some (.int .i64 ((L[j]).n : Int)) /\ w.cell? ⟨g, j * 6 + 3, none⟩ = some (.int .i64 ((L[j]).lo2 : Int)) /\ w.cell? ⟨g, j * 6 + 4, none⟩ = some (.int .i64 ((L[j]).hi2 : Int)) /\ w.cell? ⟨g, j * 6 + 5, none⟩ = some (.int .i64 ((L[j]).off : Int))
theorem rwV_at : ∀ (L : List RwT) (j : Nat) (hj : j < L.length), (L.flatMap rwV)[j * 6]? = some (.int .i64 ((L[j]).lo : Int)) /\ (L.flatMap rwV)[j * 6 + 1]? = some (.int .i64 ((L[j]).hi : Int)) /\ (L.flatMap rwV)[j * 6 + 2]? = some (.int .i64 ((L[j]).n : Int)) /\ (L.flatMap rwV)[j * 6 + 3]? = some (.int .i64 ((L[j]).lo2 : Int)) /\ (L.flatMap rwV)[j * 6 + 4]? = some (.int .i64 ((L[j]).hi2 : Int)) /\ (L.flatMap rwV)[j * 6 + 5]? = some (.int .i64 ((L[j]).off : Int))
 | [], j, h => by cases h
 | p :: l, 0, _ => ⟨rfl, rfl, rfl, rfl, rfl, rfl⟩
 | p :: l, j + 1, h => by
  have ih := rwV_at l j (by simpa using h)
  have e : (p :: l).flatMap rwV = .int .i64 (p.lo : Int) :: .int .i64 (p.hi : Int) :: .int .i64 (p.n : Int) :: .int .i64 (p.lo2 : Int) :: .int .i64 (p.hi2 : Int) :: .int .i64 (p.off : Int) :: l.flatMap rwV := rfl
  rw [e, show (j + 1) * 6 = j * 6 + 1 + 1 + 1 + 1 + 1 + 1 by omega]
  simpa using ih
theorem SeesW.new (w : World) (L : List RwT) (T : TypeId) : SeesW (w.alloc (.cells (L.flatMap rwV).toArray T)) w.heap.size L := fun j hj => by
 have h := rwV_at L j hj
 exact ⟨(qw w (L.flatMap rwV) T _ _ h.1).1, (qw w (L.flatMap rwV) T _ _ h.2.1).1, (qw w (L.flatMap rwV) T _ _ h.2.2.1).1, (qw w (L.flatMap rwV) T _ _ h.2.2.2.1).1, (qw w (L.flatMap rwV) T _ _ h.2.2.2.2.1).1, (qw w (L.flatMap rwV) T _ _ h.2.2.2.2.2).1⟩
theorem SeesW.below {w w' : World} {g B : Nat} {L : List RwT} (h : SeesW w g L) (hb : Below B w w') (hg : g < B) : SeesW w' g L := fun j hj =>
 ⟨(hb.cell (p := ⟨g, j * 6, none⟩) hg).trans (h j hj).1, (hb.cell (p := ⟨g, j * 6 + 1, none⟩) hg).trans (h j hj).2.1, (hb.cell (p := ⟨g, j * 6 + 2, none⟩) hg).trans (h j hj).2.2.1, (hb.cell (p := ⟨g, j * 6 + 3, none⟩) hg).trans (h j hj).2.2.2.1, (hb.cell (p := ⟨g, j * 6 + 4, none⟩) hg).trans (h j hj).2.2.2.2.1, (hb.cell (p := ⟨g, j * 6 + 5, none⟩) hg).trans (h j hj).2.2.2.2.2⟩
theorem XK {t : ByteArray} {L : List RwT} {k : Nat} (hk : k < L.length) : qM t (L.drop k) = if zW t L[k] = 0 then qM t (L.drop (k + 1)) else if zW t L[k] < (L[k]).n then (65533, zW t L[k]) else (valF t (zW t L[k] - 1) 1 ((byt t 0 : Int) - (L[k]).off), zW t L[k]) := by
 rw [List.drop_eq_getElem_cons hk]
 rfl
theorem XM {t : ByteArray} {x : RwT} : zW t x <= t.size /\ (1 <= x.n -> zW t x <= x.n) := by
 unfold zW
 split
 ·exact ⟨Nat.zero_le _, fun _ => Nat.zero_le _⟩
 ·rename_i h
  have z : ¬ t.size = 0 := fun z => h (Or.inl z)
  by_cases p : 1 <= x.n
  ·have := QA t x 4 1 (by omega) p
   exact ⟨this.1, fun _ => this.2⟩
  ·have e : zD t x 4 1 = 1 := by unfold zD; rw [if_neg (by omega)]
   rw [e]
   exact ⟨by omega, fun q => absurd q p⟩
theorem rows_n : ∀ x ∈ qC, 1 <= x.n := by
 intro x m
 unfold qC at m
 simp only [List.mem_cons, List.not_mem_nil, or_false] at m
 rcases m with rfl | rfl | rfl | rfl | rfl | rfl | rfl | rfl | rfl <;> decide
set_option maxHeartbeats 32000000 in
set_option maxRecDepth 100000 in
theorem XN (t : ByteArray) (h0 : 0 < t.size) (ht : t.size <= 1000000000000000) (w : World) : Calls Tryz.prog 126 #[.string t] w fun e w' => e = .returned (.tuple #[.int .i32 ((decB t).1 : Int), .int .i64 ((decB t).2 : Int)]) /\ Below w.heap.size w w' := by
 have SD := scan_dec t h0
 obtain ⟨SC, hSC⟩ : ∃ SC, SC = qM t qC := ⟨_, rfl⟩
 have EN : Hid (∀ (a : Int) (b : Nat) (w' : World), SC = (a, b) -> Below w.heap.size w w' -> Ending.returned (.tuple #[.int .i32 a, .int .i64 (b : Int)]) = Ending.returned (.tuple #[.int .i32 ((decB t).1 : Int), .int .i64 ((decB t).2 : Int)]) /\ Below w.heap.size w w') := Vd (fun a b w' e hb => by
  rw [hSC, SD] at e
  injection e with e1 e2
  rw [e1, e2]
  exact ⟨rfl, hb⟩)
 have HSC := Vd hSC
 have RW := Vd (ref_Rows w)
 have FI := Vd (fun x hn W => ref_fits t ht x hn W)
 have IX := Vd (str_at t)
 have zs : ((t.size : Int) == 0) = false := by rw [beq_eq_false_iff_ne]; omega
 generalize (decB t).1 = r1 at *
 generalize (decB t).2 = r2 at *
 clear SD hSC
 go_enter Tryz.func126, Tryz.ntmps126
 go_wp2_with fail
 refine RW.out.mono ?_; rintro e w1 ⟨rfl, hw⟩
 have b1 : Below w.heap.size w w1 := by rw [hw]; exact (Below.refl _ w).alloc Vf _
 have S1 := SeesW.new w qC 182
 rw [<- hw] at S1
 have g1 : w.heap.size < w1.heap.size := by rw [hw]; simp
 have HB1 := Vd b1
 have HS1 := Vd S1
 have HG1 := Vd g1
 clear hw RW b1 S1 g1 zs
 go_wp2_with fail
 go_loopw [5] (fun s5 wr => ∃ i : Nat, i <= 9 /\ s5 = .int .i64 (i : Int) /\ Hid (qM t (qC.drop i) = SC) /\ Hid (SeesW wr w.heap.size qC) /\ Hid (w.heap.size < wr.heap.size) /\ Hid (Below w.heap.size w wr)) (fun s5 _ => 9 - (intOf s5).toNat)
 case atStart => exact ⟨0, Nat.zero_le _, rfl, Vd (by rw [List.drop_zero]; exact HSC.out.symm), HS1, HG1, HB1⟩
 case round =>
  obtain ⟨i, hi, rfl, hI, hS, hG, hb⟩ := hrel
  clear HS1 HG1 HB1
  by_cases lt : i < 9
  ·have il : i < qC.length := lt
   have ST := hI.out
   rw [XK il] at ST
   have ok := rows_ok _ (List.getElem_mem il)
   have on := rows_n _ (List.getElem_mem il)
   obtain ⟨y0, y1, y2, y3, y4, y5⟩ := hS.out i il
   have FC := Vd (FI.out qC[i] ok.1 wr)
   have fz := XM (t := t) (x := qC[i])
   generalize qC[i] = x at *
   have NXT := Vd (show qM t (qC.drop (i + 1)) = qM t (qC.drop (i + 1)) from rfl)
   obtain ⟨k, hk⟩ : ∃ k, k = zW t x := ⟨_, rfl⟩
   rw [<- hk] at ST FC fz
   have ST := Vd ST
   have FZ := Vd fz
   obtain ⟨xlo, xhi, xn, xlo2, xhi2, xoff⟩ := x
   dsimp only at y0 y1 y2 y3 y4 y5 ok on FC
   have kn : k <= xn := fz.2 on
   have ks : k <= t.size := fz.1
   have q0 : (0 : Int) <= (i : Int) := by omega
   have q5 : (i : Int) < 9 := by omega
   have tn : (i : Int).toNat = i := by omega
   have wk := Ve ((i : Int) + 1) (by omega)
   obtain ⟨ok1, ok2⟩ := ok
   clear hI hk fz
   go_wp2_with fail
   refine FC.out.mono ?_; rintro e w2 ⟨rfl, hb2⟩
   have S2 := Vd (hS.out.below hb2 hG.out)
   have G2 : Hid (w.heap.size < w2.heap.size) := Vd (Nat.lt_of_lt_of_le hG.out hb2.size)
   have B2 := Vd (hb.out.trans (hb2.mono hb.out.size))
   have z0 := (hb2.cell (p := ⟨w.heap.size, i * 6, none⟩) hG.out).trans y0
   have z2 := (hb2.cell (p := ⟨w.heap.size, i * 6 + 2, none⟩) hG.out).trans y2
   have z5 := (hb2.cell (p := ⟨w.heap.size, i * 6 + 5, none⟩) hG.out).trans y5
   clear FC hb2 y0 y1 y2 y3 y4 y5 hS hG hb
   by_cases k0 : k = 0
   ·have e0 : ((k : Int) == 0) = true := by rw [k0]; rfl
    have NX := Vd (show qM t (qC.drop (i + 1)) = SC by rw [<- ST.out, if_pos k0])
    clear k0
    go_wp2_with fail
    go_roundw
    case rel => exact ⟨i + 1, by omega, by go_num, NX, S2, G2, B2⟩
    case measure => simp [intOf]; omega
   ·have e0 : ((k : Int) == 0) = false := by rw [beq_eq_false_iff_ne]; omega
    by_cases c1 : k < xn
    ·have c1' : (k : Int) < (xn : Int) := by omega
     have FIN := Vd (EN.out 65533 k w2 (by rw [<- ST.out, if_neg k0, if_pos c1]) B2.out)
     go_wp2_with fail
     refine bodyPost_ret (v := .tuple #[.int .i32 65533, .int .i64 (k : Int)]) (by simp [results, Tryz.results126, go_sem]) rfl ?_
     exact FIN.out
    ·have c1' : ¬ (k : Int) < (xn : Int) := by omega
     have ix0 := IX.out 0 h0
     have ix0 : ∀ W, (Instr.index 9 (.string t) (.int .i64 0)).run Tryz.prog W = .ok (.int .u8 (byt t 0 : Int)) W := ix0
     have v256 := jh t 0
     have VV := ST.out
     rw [if_neg k0, if_neg c1] at VV
     generalize byt t 0 = b0 at *
     have VV := Vd VV
     have ws := Ve ((b0 : Int) - (xoff : Int)) (by omega)
     clear ST NXT
     go_wp2_with fail
     refine qP 9 (by kernel_rfl) (by kernel_rfl) ?_
     simp only [Vg, Vh, Vi, Vj]
     repeat (first | go_big_quiet_step (fail) | quiet_step (fail))
     refine wpQuiet_nil ?_
     intro _ hw'
     obtain ⟨nq, hw''⟩ := hw'
     subst hw''
     have B3 := Vd (j5 nq w2 B2.out)
     generalize w2.drewN nq = V at *
     clear z0 z2 z5 ix0 S2 G2 B2
     go_wp2_with fail
     go_loopw [7, 8] (fun s7 s8 wr => ∃ (j : Nat) (r : Int), j <= k /\ 1 <= j /\ s7 = .int .i64 r /\ s8 = .int .i64 (j : Int) /\ ((j = 1 /\ -255 <= r /\ r <= 255) \/ (j = 2 /\ -16575 <= r /\ r <= 16575) \/ (j = 3 /\ -1061055 <= r /\ r <= 1061055) \/ (j = 4 /\ -67907775 <= r /\ r <= 67907775)) /\ Hid ((valF t (k - j) j r, k) = SC) /\ wr = V) (fun _ s8 _ => k - (intOf s8).toNat)
     case atStart => exact ⟨1, _, by omega, Vf, rfl, rfl, Or.inl ⟨rfl, by omega, by omega⟩, VV, rfl⟩
     case round =>
      obtain ⟨j, r, hj, hj1, rfl, rfl, hr, hV, hwr⟩ := hrel
      rw [hwr]
      clear hwr VV
      by_cases lj : j < k
      ·have jt : j < t.size := by omega
       have ix := IX.out j jt
       have vb := jh t j
       have ST := hV.out
       rw [show k - j = (k - (j + 1)) + 1 by omega, valF] at ST
       generalize byt t j = v at *
       have ST := Vd ST
       have p0 : (0 : Int) <= (j : Int) := by omega
       have p5 : (j : Int) < (k : Int) := by omega
       have p6 : (j : Int) < (t.size : Int) := by omega
       have pn : (j : Int).toNat = j := by omega
       have pk := Ve ((j : Int) + 1) (by omega)
       have w1 := Ve (r * 64) (by omega)
       have w3 := Ve (r * 64 + (v : Int)) (by omega)
       have w4 := Ve (r * 64 + (v : Int) - 128) (by omega)
       have NR : ((j + 1 = 1 /\ -255 <= r * 64 + (v : Int) - 128 /\ r * 64 + (v : Int) - 128 <= 255) \/ (j + 1 = 2 /\ -16575 <= r * 64 + (v : Int) - 128 /\ r * 64 + (v : Int) - 128 <= 16575) \/ (j + 1 = 3 /\ -1061055 <= r * 64 + (v : Int) - 128 /\ r * 64 + (v : Int) - 128 <= 1061055) \/ (j + 1 = 4 /\ -67907775 <= r * 64 + (v : Int) - 128 /\ r * 64 + (v : Int) - 128 <= 67907775)) := by omega
       have NR := Vd NR
       clear hV hr
       go_wp2_with fail
       go_roundw
       case rel => exact ⟨j + 1, r * 64 + (v : Int) - 128, by omega, by omega, by go_num, by go_num, NR.out, ST, by first | rfl | trivial⟩
       case measure => simp [intOf]; omega
      ·have e : j = k := by omega
       subst e
       have p5 : ¬ (j : Int) < (j : Int) := by omega
       have wr32 : IntKind.i32.wrap r = r := by rw [IntKind.wrap_i32]; omega
       have FIN := Vd (EN.out r j V (by rw [<- hV.out, Nat.sub_self]; rfl) B3.out)
       clear hV hr
       go_wp2_with fail
       refine bodyPost_ret (v := .tuple #[.int .i32 r, .int .i64 (j : Int)]) (by simp [results, Tryz.results126, go_sem]) rfl ?_
       exact FIN.out
  ·have e : i = 9 := by omega
   subst e
   have q5 : ¬ ((9 : Nat) : Int) < 9 := by omega
   have FIN := Vd (EN.out 65533 1 wr (by rw [<- hI.out]; rfl) hb.out)
   go_wp2_with fail
   refine bodyPost_ret (v := .tuple #[.int .i32 65533, .int .i64 1]) (by simp [results, Tryz.results126, go_sem]) rfl ?_
   exact FIN.out
end
end
section
open Go Go.RowKit Go.Sort
section
def szV : Value -> Nat
 | .string x => x.size
 | _ => 0
set_option maxHeartbeats 8000000 in
set_option maxRecDepth 100000 in
theorem XO (s : ByteArray) (hs : s.size <= 35184372000000) (w : World) : Calls Tryz.prog 107 #[.string s] w fun e w' => ∃ v, e = .returned v /\ w'.ownsRow w.heap.size 21 1 v (zt s).length (rns (zt s)) /\ Below w.heap.size w w' := by
 obtain ⟨i0, hi0, hz0, hz1, hz2⟩ := info_parts infoR
 obtain ⟨LO, hLO⟩ : ∃ LO, LO = w.heap.size := ⟨_, rfl⟩
 have HLO := Vd hLO
 have STEP : Hid (∀ (wr : World) (v : Value) (ws L : List Int), wr.ownsRow LO 21 1 v ws.length (rns ws) -> Below LO w wr -> ∀ (v' : Value) (w3 : World), w3.ownsRow LO 21 1 v' (ws.length + L.length) (rns ws ++ rns L) -> (wr.alloc (.cells (rns L).toArray 21)).grownBy w3 v.ownBlock -> w3.ownsRow LO 21 1 v' (ws ++ L).length (rns (ws ++ L)) /\ Below LO w w3) := Vd (fun wr v ws L ho hb v' w3 h1 h2 =>
  ⟨by rw [List.length_append, Z8]; exact h1, (hb.alloc (by rw [hLO]; exact hb.size) _).grown h2 (by have := hb.size; simp; omega) (fun g hg => (ho.lt g hg).1)⟩)
 have O0 : Hid (w.ownsRow LO 21 1 (.slice none 0 0) 0 (rns []) /\ Below LO w w) := Vd ⟨World.ownsRow_nil _ _ _ _, Below.refl _ _⟩
 rw [<- hLO]
 clear hLO
 go_enter Tryz.func107, Tryz.ntmps107
 go_wp2_with fail
 go_loopw [0, 3] (fun s0 s3 wr => ∃ (x : ByteArray) (acc : List Int), s0 = .string x /\ Hid (acc ++ zt x = zt s) /\ Hid (acc.length + x.size <= s.size) /\ Hid (wr.ownsRow LO 21 1 s3 acc.length (rns acc) /\ Below LO w wr)) (fun s0 _ _ => szV s0)
 case atStart => exact ⟨s, [], rfl, Vd rfl, Vd (by simp), O0⟩
 case round =>
  obtain ⟨x, acc, rfl, hx, hl, ho⟩ := hrel
  by_cases lt : 0 < x.size
  ·have lt' : (0 : Int) < (x.size : Int) := by omega
   have bb := j8 x lt
   have xs : x.size <= 35184372000000 := by have := hl.out; omega
   have DD := Vd (XN x lt (by omega))
   have NX : acc ++ [((decB x).1 : Int)] ++ zt (x.extract (decB x).2 x.size) = zt s := by rw [<- hx.out, x6 x lt, List.append_assoc, List.singleton_append]
   have zz : (x.extract (decB x).2 x.size).size = x.size - (decB x).2 := by rw [ByteArray.size_extract]; omega
   have slr : ∀ W, (Instr.slice 9 (.string x) (some (.int .i64 ((decB x).2 : Int))) none none).run Tryz.prog W = .ok (.string (x.extract (decB x).2 x.size)) W := fun W => by
    rw [run_slice_string_from_if _ _ _ _ _ Tryz.underlying9, if_pos (by omega)]
    rfl
   have NX := Vd NX
   have HL := Vd (show acc.length + 1 + (x.extract (decB x).2 x.size).size <= s.size by rw [zz]; have := hl.out; omega)
   have ZZ := Vd (show (x.extract (decB x).2 x.size).size < x.size by rw [zz]; omega)
   have LL : acc.length + 1 <= 35184372000000 := by have := hl.out; omega
   generalize x.extract (decB x).2 x.size = y at *
   generalize (decB x).2 = d at *
   generalize (decB x).1 = r at *
   clear hx zz hl
   go_wp2_with fail
   refine (DD.out _).mono ?_; rintro e w1 ⟨rfl, hb1⟩
   have HO := Vd ((qg ho.out.1 hb1).alloc (.cells (rns [(r : Int)]).toArray 21))
   have HO1 := Vd (qg ho.out.1 hb1)
   have HB := Vd (ho.out.2.trans (hb1.mono (by rw [HLO.out]; exact ho.out.2.size)))
   have H2 : acc.length + 1 <= maxLen := by unfold maxLen; omega
   have H3 : (acc.length + 1) * 4 <= 140737488355328 := by omega
   have H4 : LO <= (w1.alloc (.cells (rns [(r : Int)]).toArray 21)).heap.size := by have := HB.out.size; rw [HLO.out]; simp; omega
   have NW := Vd (qL w1 (rns [(r : Int)]) 21)
   have O1 := Vd (Z9 [(r : Int)])
   have ST := Vd (fun v' w3 a b => STEP.out w1 _ acc [(r : Int)] HO1.out HB.out v' w3 a b)
   clear ho hb1
   go_wp2_with (at_builtin; refine wpList_append_own _ rfl (.tmp 14) (.tmp 16) 143 rfl LO 21 i0 (.int .i32 0) 1 4 Tryz.underlying143 hi0 hz0 hz1 hz2 rfl (by decide) _ _ _ rfl HO.out ⟨w1.heap.size, 0, none⟩ 1 1 (rns [(r : Int)]) rfl rfl NW.out O1.out H2 H3 H4 ?_; intro v' w3 hown3 hg3 _)
   have SS := Vd (ST.out v' w3 hown3 hg3)
   clear hown3 hg3
   go_wp2_with fail
   go_roundw
   case rel => exact ⟨y, _, rfl, NX, Vd (by rw [List.length_append]; exact HL.out), SS⟩
   case measure => exact ZZ.out
  ·have lt' : ¬ (0 : Int) < (x.size : Int) := by omega
   have FE : acc = zt s := by
    have h := hx.out
    rw [x5 x (by omega), List.append_nil] at h
    exact h
   have OO := ho.out
   rw [FE] at OO
   have OO := Vd OO
   clear hx ho FE
   go_wp2_with fail
   go_ret
   exact ⟨_, rfl, OO.out.1, OO.out.2⟩
set_option maxHeartbeats 8000000 in
set_option maxRecDepth 100000 in
theorem XP (r : Int) (w : World) : Calls Tryz.prog 150 #[.int .i32 r] w fun e w' => e = .returned (.bool (decide (0 <= r /\ r <= 1114111 /\ (r < 55296 \/ 57343 < r)))) /\ w' = w := by
 generalize hD : decide (0 <= r /\ r <= 1114111 /\ (r < 55296 \/ 57343 < r)) = D
 have HD := Vd hD
 clear hD
 by_cases c1 : 0 <= r
 ·by_cases c2 : r <= 1114111
  ·by_cases c3 : r < 55296
   ·have R := Vd (show D = true by rw [<- HD.out]; exact decide_eq_true ⟨c1, c2, Or.inl c3⟩)
    go_enter Tryz.func150, Tryz.ntmps150
    go_wp2_with fail
    go_ret
    exact ⟨by rw [R.out]; rfl, rfl⟩
   ·by_cases c4 : 57343 < r
    ·have R := Vd (show D = true by rw [<- HD.out]; exact decide_eq_true ⟨c1, c2, Or.inr c4⟩)
     go_enter Tryz.func150, Tryz.ntmps150
     go_wp2_with fail
     go_ret
     exact ⟨by rw [R.out]; rfl, rfl⟩
    ·have R := Vd (show D = false by rw [<- HD.out]; exact decide_eq_false (by omega))
     go_enter Tryz.func150, Tryz.ntmps150
     go_wp2_with fail
     go_ret
     exact ⟨by rw [R.out]; rfl, rfl⟩
  ·have R := Vd (show D = false by rw [<- HD.out]; exact decide_eq_false (by omega))
   go_enter Tryz.func150, Tryz.ntmps150
   go_wp2_with fail
   go_ret
   exact ⟨by rw [R.out]; rfl, rfl⟩
 ·have R := Vd (show D = false by rw [<- HD.out]; exact decide_eq_false (by omega))
  go_enter Tryz.func150, Tryz.ntmps150
  go_wp2_with fail
  go_ret
  exact ⟨by rw [R.out]; rfl, rfl⟩
end
end
section
open Go Go.RowKit Go.Sort
section
theorem new8 (W : World) (L : List Int) (h : L.length <= 1000) : (W.alloc (.cells (bts L).toArray 5)).ownsRow W.heap.size 5 1 (.slice (some ⟨W.heap.size, 0, none⟩) L.length L.length) L.length (bts L) :=
 ⟨by simp [bts], Or.inr ⟨W.heap.size, L.length, (bts L).toArray, rfl, Vf, Array.getElem?_push_size, Vf, by unfold maxLen; omega, by simp [bts], by rw [Nat.mul_one, List.take_of_length_le (by simp [bts])]⟩⟩
theorem conv8 (W : World) (L : List Int) (h : L.length <= 1000) : (convert 66 9 (.slice (some ⟨W.heap.size, 0, none⟩) L.length L.length)).run Tryz.prog (W.alloc (.cells (bts L).toArray 5)) = .ok (.string (barr L)) (W.alloc (.cells (bts L).toArray 5)) := kt (new8 W L h)
set_option maxHeartbeats 8000000 in
set_option maxRecDepth 100000 in
theorem XQ (r : Int) (hr : -2147483648 <= r /\ r <= 2147483647) (w : World) : Calls Tryz.prog 142 #[.int .i32 r] w fun e w' => e = .returned (.string (barr (qq r))) /\ Below w.heap.size w w' := by
 have CH := Vd (XP r w)
 have hc := kR r
 have CI : Hid (zq r = if 0 <= r /\ r <= 1114111 /\ (r < 55296 \/ 57343 < r) then r else 65533) := Vd rfl
 have BI : Hid (qq r = if zq r < 128 then [zq r] else if zq r < 2048 then [192 + zq r / 64, 128 + zq r % 64] else if zq r < 65536 then [224 + zq r / 4096, 128 + zq r / 64 % 64, 128 + zq r % 64] else [240 + zq r / 262144, 128 + zq r / 4096 % 64, 128 + zq r / 64 % 64, 128 + zq r % 64]) := Vd rfl
 have CV := Vd (conv8 w)
 generalize zq r = c at *
 generalize qq r = B at *
 obtain ⟨D, hD⟩ : ∃ D, D = decide (0 <= r /\ r <= 1114111 /\ (r < 55296 \/ 57343 < r)) := ⟨_, rfl⟩
 rw [<- hD] at CH
 have HD := Vd hD
 clear hD
 go_enter Tryz.func142, Tryz.ntmps142
 go_wp2_with fail
 refine CH.out.mono ?_; rintro e w1 ⟨rfl, hw⟩
 rw [hw]
 clear hw CH
 go_upto_if 6 with fail
 go_cut [0] from 6 to 6 (fun s0 wx => s0 = .int .i32 c /\ wx = w)
 case first =>
  cases D with
  | true =>
   have E := Vd (show r = c by rw [CI.out, if_pos (of_decide_eq_true HD.out.symm)])
   go_wp2_with fail
   go_meet
   exact ⟨by rw [E.out], rfl⟩
  | false =>
   have E := Vd (show 65533 = c by rw [CI.out, if_neg (of_decide_eq_false HD.out.symm)])
   go_wp2_with fail
   go_meet
   exact ⟨by rw [<- E.out], rfl⟩
 case rest =>
  obtain ⟨rfl, hwc⟩ := hcut
  rw [hwc]
  clear hwc
  by_cases c1 : c < 128
  ·have R := Vd (show B = [c] by rw [BI.out, if_pos c1])
   have cv := CV.out [c] (by simp)
   have w1 : IntKind.u8.wrap c = c := by rw [IntKind.wrap_u8]; omega
   change (convert 66 9 (.slice (some ⟨w.heap.size, 0, none⟩) 1 1)).run Tryz.prog (w.alloc (.cells #[.int .u8 c] 5)) = .ok (.string (barr [c])) (w.alloc (.cells #[.int .u8 c] 5)) at cv
   go_wp2_with fail
   go_ret
   exact ⟨by rw [R.out]; rfl, (Below.refl _ w).alloc Vf _⟩
  by_cases c2 : c < 2048
  ·have R := Vd (show B = [192 + c / 64, 128 + c % 64] by rw [BI.out, if_neg c1, if_pos c2])
   have cv := CV.out [192 + c / 64, 128 + c % 64] (by simp)
   change (convert 66 9 (.slice (some ⟨w.heap.size, 0, none⟩) 2 2)).run Tryz.prog (w.alloc (.cells #[.int .u8 (192 + c / 64), .int .u8 (128 + c % 64)] 5)) = .ok (.string (barr [192 + c / 64, 128 + c % 64])) (w.alloc (.cells #[.int .u8 (192 + c / 64), .int .u8 (128 + c % 64)] 5)) at cv
   have w1 : IntKind.u8.wrap (192 + c / 64) = 192 + c / 64 := by rw [IntKind.wrap_u8]; omega
   have w2 : IntKind.u8.wrap (128 + c % 64) = 128 + c % 64 := by rw [IntKind.wrap_u8]; omega
   go_wp2_with fail
   go_ret
   exact ⟨by rw [R.out]; rfl, (Below.refl _ w).alloc Vf _⟩
  by_cases c3 : c < 65536
  ·have R := Vd (show B = [224 + c / 4096, 128 + c / 64 % 64, 128 + c % 64] by rw [BI.out, if_neg c1, if_neg c2, if_pos c3])
   have cv := CV.out [224 + c / 4096, 128 + c / 64 % 64, 128 + c % 64] (by simp)
   change (convert 66 9 (.slice (some ⟨w.heap.size, 0, none⟩) 3 3)).run Tryz.prog (w.alloc (.cells #[.int .u8 (224 + c / 4096), .int .u8 (128 + c / 64 % 64), .int .u8 (128 + c % 64)] 5)) = .ok (.string (barr [224 + c / 4096, 128 + c / 64 % 64, 128 + c % 64])) (w.alloc (.cells #[.int .u8 (224 + c / 4096), .int .u8 (128 + c / 64 % 64), .int .u8 (128 + c % 64)] 5)) at cv
   have w1 : IntKind.u8.wrap (224 + c / 4096) = 224 + c / 4096 := by rw [IntKind.wrap_u8]; omega
   have w2 : IntKind.u8.wrap (128 + c / 64 % 64) = 128 + c / 64 % 64 := by rw [IntKind.wrap_u8]; omega
   have w3 : IntKind.u8.wrap (128 + c % 64) = 128 + c % 64 := by rw [IntKind.wrap_u8]; omega
   have q1 : 0 <= c / 64 := by omega
   go_wp2_with fail
   go_ret
   exact ⟨by rw [R.out]; rfl, (Below.refl _ w).alloc Vf _⟩
  ·have R := Vd (show B = [240 + c / 262144, 128 + c / 4096 % 64, 128 + c / 64 % 64, 128 + c % 64] by rw [BI.out, if_neg c1, if_neg c2, if_neg c3])
   have cv := CV.out [240 + c / 262144, 128 + c / 4096 % 64, 128 + c / 64 % 64, 128 + c % 64] (by simp)
   change (convert 66 9 (.slice (some ⟨w.heap.size, 0, none⟩) 4 4)).run Tryz.prog (w.alloc (.cells #[.int .u8 (240 + c / 262144), .int .u8 (128 + c / 4096 % 64), .int .u8 (128 + c / 64 % 64), .int .u8 (128 + c % 64)] 5)) = .ok (.string (barr [240 + c / 262144, 128 + c / 4096 % 64, 128 + c / 64 % 64, 128 + c % 64])) (w.alloc (.cells #[.int .u8 (240 + c / 262144), .int .u8 (128 + c / 4096 % 64), .int .u8 (128 + c / 64 % 64), .int .u8 (128 + c % 64)] 5)) at cv
   have w1 : IntKind.u8.wrap (240 + c / 262144) = 240 + c / 262144 := by rw [IntKind.wrap_u8]; omega
   have w2 : IntKind.u8.wrap (128 + c / 64 % 64) = 128 + c / 64 % 64 := by rw [IntKind.wrap_u8]; omega
   have w3 : IntKind.u8.wrap (128 + c % 64) = 128 + c % 64 := by rw [IntKind.wrap_u8]; omega
   have w4 : IntKind.u8.wrap (128 + c / 4096 % 64) = 128 + c / 4096 % 64 := by rw [IntKind.wrap_u8]; omega
   have q1 : 0 <= c / 64 := by omega
   have q2 : 0 <= c / 4096 := by omega
   go_wp2_with fail
   go_ret
   exact ⟨by rw [R.out]; rfl, (Below.refl _ w).alloc Vf _⟩
theorem XR (l : List Int) (h : ∀ b ∈ l, 0 <= b /\ b < 256) : Lib.strCells (barr l) = bts l := by
 unfold Lib.strCells barr bts
 simp only [List.map_map]
 refine List.map_congr_left (fun n m => ?_)
 have := h n m
 show Value.int .u8 ((UInt8.ofNat n.toNat).toNat : Int) = Value.int .u8 n
 rw [UInt8.toNat_ofNat']
 congr 1
 omega
theorem QD (l : List Int) : (barr l).size = l.length := by
 show (l.map _).toArray.size = _
 simp
set_option maxHeartbeats 8000000 in
set_option maxRecDepth 100000 in
theorem XU (A : Option Addr) (c : Nat) (l : List Int) (hl : l.length <= 35184372000000) (hr : ∀ r ∈ l, 0 <= r /\ r < 2097152) (w : World) (S : Sees w w.heap.size A (rns l)) :
  Calls Tryz.prog 128 #[.slice A l.length c] w fun e w' => e = .returned (.string (barr (zo l))) /\ Below w.heap.size w w' := by
 have F1 := Vd (fun (k : Nat) (hk : k < l.length) => jd S k hk)
 have HR := Vd hr
 clear S hr
 obtain ⟨n, hn⟩ : ∃ n, n = l.length := ⟨_, rfl⟩
 have HN := Vd hn
 rw [<- hn] at hl F1 ⊢
 clear hn
 obtain ⟨i0, hi0, hz0, hz1, hz2⟩ := info_parts infoB
 have XT : Hid (∀ k (hk : k < l.length), zo (l.take (k + 1)) = zo (l.take k) ++ qq (l.getD k 0)) := Vd (fun k hk => by
  have e : l.getD k 0 = l[k] := by simp [hk]
  rw [e, List.take_succ_eq_append_getElem hk, Zk])
 have XE : Hid (zo (l.take n) = zo l) := Vd (by rw [HN.out, List.take_length])
 have XL : Hid (∀ k, k <= n -> (zo (l.take k)).length <= 4 * k) := Vd (fun k hk => Nat.le_trans (kS _) (by rw [List.length_take]; omega))
 obtain ⟨LO, hLO⟩ : ∃ LO, LO = w.heap.size := ⟨_, rfl⟩
 have HLO := Vd hLO
 have O0 : Hid (w.ownsRow LO 5 1 (.slice none 0 0) (zo (l.take 0)).length (bts (zo (l.take 0))) /\ Below LO w w) := Vd ⟨World.ownsRow_nil _ _ _ _, Below.refl _ _⟩
 rw [<- hLO] at F1 ⊢
 clear hLO
 go_enter Tryz.func128, Tryz.ntmps128
 go_wp2_with fail
 go_loopw [3, 4] (fun s3 s4 wr => ∃ (k : Nat), k <= n /\ s4 = .int .i64 k /\ Hid (wr.ownsRow LO 5 1 s3 (zo (l.take k)).length (bts (zo (l.take k))) /\ Below LO w wr)) (fun _ s4 _ => n - (intOf s4).toNat)
 case atStart => exact ⟨0, by omega, rfl, O0⟩
 case round =>
  obtain ⟨k, hk, rfl, ho⟩ := hrel
  by_cases lt : k < n
  ·have lt' : k < l.length := by rw [<- HN.out]; exact lt
   obtain ⟨ad, rfl, hab, c0⟩ := F1.out k lt
   have cx := (ho.out.2.cell (p := ad.add k) (by rw [zj]; exact hab)).trans c0
   have bd := HR.out (l.getD k 0) (Qb l k lt')
   have BC := Vd (XQ (l.getD k 0) (by omega) wr)
   have ST := Vd (fun (w1 : World) (hb1 : Below wr.heap.size wr w1) (v' : Value) (w3 : World) (h1 : w3.ownsRow LO 5 1 v' ((zo (l.take k)).length + (barr (qq (l.getD k 0))).size) (bts (zo (l.take k)) ++ Lib.strCells (barr (qq (l.getD k 0))))) (v : Value) (hv : wr.ownsRow LO 5 1 v (zo (l.take k)).length (bts (zo (l.take k)))) (h2 : w1.grownBy w3 v.ownBlock) => show w3.ownsRow LO 5 1 v' (zo (l.take (k + 1))).length (bts (zo (l.take (k + 1)))) /\ Below LO w w3 from by
    rw [XT.out k lt', List.length_append, Qa]
    rw [QD, XR _ (JF _)] at h1
    have B1 := ho.out.2.trans (hb1.mono (by rw [HLO.out]; exact ho.out.2.size))
    exact ⟨h1, B1.grown h2 (by rw [HLO.out]; exact B1.size) (fun g hg => ((qg hv hb1).lt g hg).1)⟩)
   have bl := Zj (l.getD k 0)
   rw [<- QD] at bl
   have tl := XL.out k hk
   generalize barr (qq (l.getD k 0)) = y at *
   generalize l.getD k 0 = r at *
   clear c0 bd
   go_wp2_with fail
   refine BC.out.mono ?_; rintro e w1 ⟨rfl, hb1⟩
   have HO := Vd (qg ho.out.1 hb1)
   have HV := Vd ho.out.1
   have H1 : (zo (l.take k)).length + y.size <= maxLen := by unfold maxLen; omega
   have H3 : (zo (l.take k)).length + y.size <= 140737488355328 := by omega
   have H4 : LO <= w1.heap.size := by rw [HLO.out]; exact Nat.le_trans ho.out.2.size hb1.size
   have HB1 := Vd hb1
   clear hb1 bl tl
   go_wp2_with (at_builtin; refine Lib.wpList_append_own_string _ rfl (.tmp 11) (.tmp 16) 66 9 rfl LO 5 i0 Tryz.underlying66 Tryz.underlying9 hi0 hz0 hz1 hz2 _ _ _ rfl HO.out y rfl H1 H3 H4 ?_; intro v' w3 hown3 hg3 _)
   have SS := Vd (ST.out w1 HB1.out v' w3 hown3 _ HV.out hg3)
   clear hown3 hg3
   go_wp2_with fail
   go_roundw
   case rel => exact ⟨k + 1, by omega, by go_num, SS⟩
   case measure => (simp [intOf] <;> omega)
  ·have ek : k = n := by omega
   subst ek
   rw [XE.out] at ho
   have hcv := kt ho.out.1
   have BB := Vd ho.out.2
   clear ho
   go_wp2_with fail
   go_ret
   exact ⟨rfl, BB.out⟩
end
end
section
open Go Go.RowKit Go.Sort
section
theorem jr {P : Program} {w : World} {ops : Array Oper} {rest : List Oper} {o : Oper} {a : Act} {Q : Exit -> Act -> World -> Prop} (hgd : o.guard = none) (s x : Operand) (t u : TypeId)
  (ho : o.op = .call { callee := .builtin .append, args := #[s, x], argTypes := #[t, u] }) (vs vx v' : Value) (w' : World) (hs : a.eval s = vs) (hx : a.eval x = vx)
  (hrun : (Builtin.append_ #[t, u] o.type #[vs, vx]).run P w = .ok v' w') (h : wpList P ops Q rest (a.put o.dst v') w') : wpList P ops Q (o :: rest) a w := by
 refine wpList_plain hgd fun K hK => ?_
 unfold Oper.wp
 simp [execOp, ho, resolve, invoke, builtin, hs, hx, hrun, Result.andThen]
 exact hK _ _ h
def cB (c : List Int × Int) : ByteArray × Int := (barr c.1, c.2)
theorem app_cl {w : World} {LO n c : Nat} {A : Option Addr} {xs : List Value} (o : w.ownsRow LO 109 2 (.slice A n c) n xs) (s : ByteArray) (u : Int) (hLO : LO <= w.heap.size) (len : n <= 1000000000000) :
  ∃ A' c' w3, (Builtin.append_ #[106, 106] 106 #[.slice A n c, .slice (some ⟨w.heap.size, 0, none⟩) 1 1]).run Tryz.prog (w.alloc (.cells #[.string s, .int .i64 u] 109)) = .ok (.slice A' (n + 1) c') w3 /\
   w3.ownsRow LO 109 2 (.slice A' (n + 1) c') (n + 1) (xs ++ clV (s, u)) /\ Below LO w w3 := by
 obtain ⟨i0, hi0, hzz⟩ := Option.map_eq_some_iff.1 infoC
 simp only [Prod.mk.injEq] at hzz
 obtain ⟨hz0, hz1, hz2⟩ := hzz
 have bu : Below w.heap.size w (w.alloc (.cells #[.string s, .int .i64 u] 109)) := (Below.refl _ w).alloc Vf _
 have o1 : (w.alloc (.cells #[.string s, .int .i64 u] 109)).ownsRow LO 109 2 (.slice A n c) n xs := o.alloc _
 obtain ⟨v', w3, r1, r2, r3, r4⟩ := run_append_own (P := Tryz.prog) (w.alloc (.cells #[.string s, .int .i64 u] 109)) LO 106 106 109 i0 (.agg #[.string ⟨#[]⟩, .int .i64 0]) 2 24 Tryz.underlying106 hi0 hz0 hz1 hz2 rfl (by decide) _ n xs o1 ⟨w.heap.size, 0, none⟩ 1 1 [.string s, .int .i64 u] rfl (qL w [.string s, .int .i64 u] _) (by intro x hx; simp at hx; rcases hx with rfl | rfl <;> rfl) (by unfold maxLen; omega) (by omega) (Nat.le_trans hLO bu.size)
 rcases kv r2 with ⟨_, z⟩ | ⟨g, c', e, _⟩
 ·omega
 ·subst e
  exact ⟨_, c', w3, r1, r2, (bu.mono hLO).grown r3 (Nat.le_trans hLO bu.size) (fun k hk => (o1.lt k hk).1)⟩
set_option maxHeartbeats 32000000 in
set_option maxRecDepth 100000 in
theorem XV (A : Option Addr) (c : Nat) (l : List Int) (hl : l.length <= 35184372000000) (hc : l.length <= c) (hr : ∀ r ∈ l, 0 <= r /\ r < 2097152) (w : World) (S : Sees w w.heap.size A (rns l)) (hl2 : l.length <= 900000000000) :
  Calls Tryz.prog 108 #[.slice A l.length c] w fun e w' => ∃ v, e = .returned v /\ w'.ownsRow w.heap.size 109 2 v ((clL l).map cB).length (cls ((clL l).map cB)) /\ Below w.heap.size w w' := by
 have HS := Vd S
 have HR := Vd hr
 obtain ⟨n, hn⟩ : ∃ n, n = l.length := ⟨_, rfl⟩
 have HN := Vd hn
 rw [<- hn] at hl hl2 hc ⊢
 clear S hr hn
 go_enter Tryz.func108, Tryz.ntmps108
 go_wp2_with fail
 go_loopw [3, 4] (fun s3 s4 wr => ∃ (k m : Nat) (A' : Option Addr) (c' : Nat) (P : List (ByteArray × Int)), k <= n /\ m <= k /\ s3 = .slice A' m c' /\ s4 = .int .i64 (k : Int) /\ Hid (P.length = m) /\ Hid (P ++ (clL (l.drop k)).map cB = (clL l).map cB) /\ Hid (wr.ownsRow w.heap.size 109 2 (.slice A' m c') m (cls P)) /\ Hid (Below w.heap.size w wr)) (fun _ s4 _ => n - (intOf s4).toNat)
 case atStart => exact ⟨0, 0, none, 0, [], Nat.zero_le _, Vf, rfl, rfl, Vd rfl, Vd (by rw [List.drop_zero]; rfl), Vd (World.ownsRow_nil _ _ _ _), Vd (Below.refl _ _)⟩
 case round =>
  obtain ⟨k, m, A', c', P, hk, hm, rfl, rfl, hp, hI, ho, hb⟩ := hrel
  by_cases lt : k < n
  ·have kl : k < l.length := by rw [<- HN.out]; exact lt
   have dne : l.drop k ≠ [] := fun z => by have := congrArg List.length z; rw [List.length_drop] at this; simp at this; omega
   obtain ⟨ad, rfl, hab, _⟩ := jd HS.out 0 (by omega)
   have FB := xd (l.drop k) dne
   rw [List.length_drop, <- HN.out] at FB
   have SK : Sees wr wr.heap.size (some (ad.add k)) (rns (l.drop k)) := (((HS.out.drop (k := k)).below hb.out Vf).more hb.out.size)
   have FI := XJ (some (ad.add k)) (c - k) (l.drop k) dne (by rw [List.length_drop, <- HN.out]; omega) wr SK
   rw [List.length_drop, <- HN.out] at FI
   have CC := kU (l.drop k) dne
   have NX := hI.out
   rw [CC, List.drop_drop] at NX
   obtain ⟨d, hd⟩ : ∃ d, d = zp (l.drop k) := ⟨_, rfl⟩
   rw [<- hd] at FB FI NX
   have tl : ((l.drop k).take d).length = d := by rw [List.length_take, List.length_drop, <- HN.out]; omega
   have tne : (l.drop k).take d ≠ [] := fun z => by rw [z] at tl; simp at tl; omega
   have TX := Vd (fun (W : World) (hB : Below wr.heap.size wr W) => by
    have := XU (some (ad.add k)) (c - k) ((l.drop k).take d) (by rw [tl]; omega) (fun r m => HR.out r (List.mem_of_mem_drop (List.mem_of_mem_take m))) W (((SK.take (k := d)).below hB Vf).more hB.size)
    rw [tl] at this
    exact this)
   have WD := Vd (fun (W : World) (hB : Below wr.heap.size wr W) => by
    have := ref_wide (some (ad.add k)) (c - k) ((l.drop k).take d) tne (by rw [tl]; omega) W (((SK.take (k := d)).below hB Vf).more hB.size)
    rw [tl] at this
    exact this)
   have NX := Vd NX
   have FI := Vd FI
   generalize zo ((l.drop k).take d) = tx at *
   generalize qW ((l.drop k).take d) = wd at *
   have FB1 := FB.1
   have FB2 := FB.2.1
   have ck : ¬ c = k := by omega
   have p0 : (0 : Int) <= (k : Int) := by omega
   have p1 : (k : Int) <= (n : Int) := by omega
   have p5 : (k : Int) < (n : Int) := by omega
   have pn : (k : Int).toNat = k := by omega
   have pd := Ve ((k : Int) + (d : Int)) (by omega)
   have p2 : (k : Int) <= (k : Int) + (d : Int) := by omega
   have p3 : (k : Int) + (d : Int) <= (c : Int) := by omega
   have pt : ((k : Int) + (d : Int)).toNat = k + d := by omega
   have pe : k + d - k = d := by omega
   have ptn : ((n : Int)).toNat = n := by omega
   clear SK dne CC tl tne hI FB hd
   go_wp2_with fail
   refine FI.out.mono ?_; rintro e w1 ⟨rfl, hb1⟩
   have TX := Vd (TX.out w1 hb1)
   have HB1 := Vd hb1
   clear FI hb1
   go_wp2_with fail
   refine TX.out.mono ?_; rintro e w2 ⟨rfl, hb2⟩
   have WD := Vd (WD.out w2 (HB1.out.trans (hb2.mono HB1.out.size)))
   have HB2 := Vd (HB1.out.trans (hb2.mono HB1.out.size))
   clear TX hb2 HB1
   go_wp2_with fail
   refine WD.out.mono ?_; rintro e w3 ⟨rfl, hb3⟩
   have B3 := HB2.out.trans (hb3.mono HB2.out.size)
   have BW := hb.out.trans (B3.mono hb.out.size)
   have o3 : w3.ownsRow w.heap.size 109 2 (.slice A' m c') m (cls P) := by
    have o := ho.out
    rcases o.2 with a | ⟨g, cap, cur, e1, e2, e3, e4⟩
    ·exact ⟨o.1, Or.inl a⟩
    ·exact ⟨o.1, Or.inr ⟨g, cap, cur, e1, e2, (B3.block g (Array.getElem?_eq_some_iff.1 e3).1).trans e3, e4⟩⟩
   obtain ⟨A2, c2, w4, R, o4, b4⟩ := app_cl o3 (barr tx) wd BW.size (by omega)
   have HO4 := Vd o4
   have HB4 := Vd (BW.trans b4)
   have NX := Vd (show (P ++ [(barr tx, wd)]) ++ (clL (l.drop (k + d))).map cB = (clL l).map cB by
    rw [<- NX.out, List.append_assoc]
    rfl)
   have NC := Vd (show cls (P ++ [(barr tx, wd)]) = cls P ++ clV (barr tx, wd) by rw [vt]; simp [cls])
   clear WD hb3 B3 BW o3 o4 b4 HB2 ho hb
   go_wp2_with (first | (at_builtin; refine jr rfl (.tmp 30) (.tmp 34) 106 106 rfl _ _ _ _ rfl rfl R ?_) | fail)
   go_roundw
   case rel => exact ⟨k + d, m + 1, A2, c2, P ++ [(barr tx, wd)], by omega, by omega, rfl, by go_num, Vd (by rw [List.length_append, hp.out]; rfl), NX, by rw [NC.out]; exact HO4, HB4⟩
   case measure => simp [intOf]; omega
  ·have e : k = n := by omega
   subst e
   have p5 : ¬ (k : Int) < (k : Int) := by omega
   have FIN := Vd (show P = (clL l).map cB by
    rw [<- hI.out, HN.out, List.drop_length]
    simp [kT])
   have OO := Vd (show wr.ownsRow w.heap.size 109 2 (.slice A' m c') ((clL l).map cB).length (cls ((clL l).map cB)) by rw [<- FIN.out, hp.out]; exact ho.out)
   clear ho hI
   go_wp2_with fail
   go_ret
   exact ⟨.slice A' m c', rfl, by have o := OO.out; rw [List.length_map] at o; exact o, hb.out⟩
set_option maxHeartbeats 8000000 in
set_option maxRecDepth 100000 in
theorem kM (s : ByteArray) (hs : s.size <= 900000000000) (w : World) : Calls Tryz.prog 87 #[.string s] w fun e w' => ∃ v, e = .returned v /\ w'.ownsRow w.heap.size 109 2 v (zu s).length (cls (zu s)) /\ Below w.heap.size w w' := by
 have RN := Vd (XO s (by omega) w)
 have RL := x7 _ s rfl
 have CL := Vd (fun (A : Option Addr) (c : Nat) (W : World) (hc : (zt s).length <= c) (S : Sees W W.heap.size A (rns (zt s))) => XV A c (zt s) (by omega) hc (Zi _ s rfl) W S (by omega))
 have SB : Hid (zu s = (clL (zt s)).map cB) := Vd rfl
 generalize zu s = L at *
 generalize (clL (zt s)).map cB = L2 at *
 obtain ⟨n, hn⟩ : ∃ n, n = (zt s).length := ⟨_, rfl⟩
 rw [<- hn] at RN CL
 clear hn RL
 go_enter Tryz.func87, Tryz.ntmps87
 go_wp2_with fail
 refine RN.out.mono ?_; rintro e w1 ⟨v, rfl, ho, hb⟩
 obtain ⟨A, c, e⟩ := xL ho
 subst e
 have cap : n <= c := by
  rcases ho.2 with ⟨z, n0⟩ | ⟨g, cap, cur, z, _, _, hn, _⟩
  ·omega
  ·injection z with z1 z2 z3; omega
 have SE : Sees w1 w1.heap.size A (rns (zt s)) := fun hne => by
  rcases ho.2 with ⟨z, n0⟩ | ⟨g, cap, cur, z, hb2, hg, hn, _, hs2, ht⟩
  ·exact absurd (List.eq_nil_of_length_eq_zero (by rw [ho.1, n0, Nat.zero_mul])) hne
  ·injection z with z1 z2 z3
   subst z1
   exact ⟨_, rfl, (Array.getElem?_eq_some_iff.1 hg).1, fun j u hj => ho.cells (g := g) rfl j u hj⟩
 have CC := Vd (CL.out A c w1 cap SE)
 have HB := Vd hb
 clear RN CL ho cap SE hb
 go_wp2_with fail
 refine CC.out.mono ?_; rintro e w2 ⟨v, rfl, o2, b2⟩
 have HO := Vd (je o2 HB.out.size)
 have HB2 := Vd (HB.out.trans (b2.mono HB.out.size))
 clear CC o2 b2
 go_wp2_with fail
 go_ret
 exact ⟨v, rfl, by rw [SB.out]; exact HO.out, HB2.out⟩
set_option maxHeartbeats 8000000 in
set_option maxRecDepth 100000 in
theorem QE (s : ByteArray) (hs : s.size <= 900000000000) (w : World) : Calls Tryz.prog 72 #[.string s] w fun e w' => e = .returned (oneV s (oneB s)) /\ Below w.heap.size w w' := by
 have SP := Vd (kM s hs)
 have SL := jv s
 have O0 : Hid (zu s = [] -> oneB s = none) := Vd (fun h => by unfold oneB; rw [h])
 have O1 : Hid (∀ c, zu s = [c] -> oneB s = if c.1 = s then some c.2 else none) := Vd (fun c h => by unfold oneB; rw [h])
 have O2 : Hid (∀ c d r, zu s = c :: d :: r -> oneB s = none) := Vd (fun c d r h => by unfold oneB; rw [h])
 generalize oneB s = o at *
 generalize zu s = L at *
 go_enter Tryz.func72, Tryz.ntmps72
 go_wp2_with fail
 refine (SP.out _).mono ?_; rintro e w1 ⟨v, rfl, ho, hb⟩
 have z0 : w1.cell? ⟨w.heap.size, 0, none⟩ = some (.string ⟨#[]⟩) := (hb.cell (p := ⟨w.heap.size, 0, none⟩) (by simp)).trans (by simp [go_sem])
 have z1 : w1.cell? ⟨w.heap.size, 1, none⟩ = some (.int .i64 0) := (hb.cell (p := ⟨w.heap.size, 1, none⟩) (by simp)).trans (by simp [go_sem])
 have f0 : w1.frozen? ⟨w.heap.size, 0, none⟩ = false := (hb.frozen (p := ⟨w.heap.size, 0, none⟩) (by simp)).trans (by simp [go_sem])
 have f1 : w1.frozen? ⟨w.heap.size, 1, none⟩ = false := (hb.frozen (p := ⟨w.heap.size, 1, none⟩) (by simp)).trans (by simp [go_sem])
 have HB := Vd (show Below w.heap.size w w1 from zl (by go_grown) (by simp) hb)
 have FN := kv ho
 clear ho hb
 rcases L with _ | ⟨⟨ct, cw⟩, _ | ⟨d, r⟩⟩
 ·have R := Vd (O0.out rfl)
  rcases FN with ⟨rfl, _⟩ | ⟨g, c, rfl, _⟩
  all_goals
   go_wp2_with fail
   refine bodyPost_ret (v := .tuple #[.agg #[.string ⟨#[]⟩, .int .i64 0], .bool false]) (by simp [results, Tryz.results72, go_sem, z0, z1]) rfl ⟨by rw [R.out]; rfl, ?_⟩
   exact (HB.out.setCell Vf _).setCell Vf _
 ·have RR := Vd (O1.out _ rfl)
  rcases FN with ⟨_, h⟩ | ⟨g, c, rfl, hg0, hg1, _, _, hc⟩
  ·cases h
  ·have c0 : w1.cell? ⟨g, 0, none⟩ = some (.string ct) := hc 0 _ rfl
   have c1 : w1.cell? ⟨g, 1, none⟩ = some (.int .i64 cw) := hc 1 _ rfl
   have ne : w.heap.size ≠ g := by simp at hg0; omega
   simp only [List.length_cons, List.length_nil]
   by_cases e : ct = s
   ·have q : (ct.toList == s.toList) = true := by rw [x8]; exact decide_eq_true e
    have R : Hid (o = some cw) := Vd (by rw [RR.out]; exact if_pos e)
    go_wp2_with fail
    refine bodyPost_ret (v := .tuple #[.agg #[.string s, .int .i64 cw], .bool true]) (by simp [results, Tryz.results72, go_sem, z0, z1, e]) rfl ⟨by rw [R.out]; rfl, ?_⟩
    exact (HB.out.setCell Vf _).setCell Vf _
   ·have q : (ct.toList == s.toList) = false := by rw [x8]; exact decide_eq_false e
    have R : Hid (o = none) := Vd (by rw [RR.out]; exact if_neg e)
    go_wp2_with fail
    refine bodyPost_ret (v := .tuple #[.agg #[.string ⟨#[]⟩, .int .i64 0], .bool false]) (by simp [results, Tryz.results72, go_sem, z0, z1]) rfl ⟨by rw [R.out]; rfl, ?_⟩
    exact (HB.out.setCell Vf _).setCell Vf _
 ·have R := Vd (O2.out _ _ _ rfl)
  rcases FN with ⟨_, h⟩ | ⟨g, c, rfl, hg0, hg1, _, _, hc⟩
  ·cases h
  ·obtain ⟨n, hn⟩ : ∃ n, n = (((ct, cw) :: d :: r).length) := ⟨_, rfl⟩
   rw [<- hn]
   have q : ((n : Int) == 1) = false := by simp; rw [hn]; simp; omega
   have q2 : ((n : Int) != 1) = true := by simp; rw [hn]; simp; omega
   clear hn SL hc
   go_wp2_with fail
   refine bodyPost_ret (v := .tuple #[.agg #[.string ⟨#[]⟩, .int .i64 0], .bool false]) (by simp [results, Tryz.results72, go_sem, z0, z1]) rfl ⟨by rw [R.out]; rfl, ?_⟩
   exact (HB.out.setCell Vf _).setCell Vf _
end
end
section
open Go Go.RowKit Go.Sort
section
structure okR (c : Cel) : Prop where
 sz : c.text.size <= 900000000000
 w0 : -128 <= c.wide
 w1 : c.wide <= 127
 fg : zh c.st.fg
 bg : zh c.st.bg
set_option maxHeartbeats 8000000 in
set_option maxRecDepth 100000 in
theorem QF (s : Sty) (hf : zh s.fg) (hb : zh s.bg) (w : World) : Calls Tryz.prog 73 #[styV s.fg s.bg s.at_] w fun e w' => e = .returned (.bool (decide (zf s = s))) /\ Below w.heap.size w w' := by
 obtain ⟨f, b, a⟩ := s
 dsimp only at *
 obtain ⟨Q, hQ⟩ : ∃ Q, Q = w.alloc (.cells #[.int .i32 f, .int .i32 b, .int .u8 (bI a)] 56) := ⟨_, rfl⟩
 have BQ : Below w.heap.size w Q := by rw [hQ]; exact (Below.refl _ w).alloc Vf _
 have KQ : Bq Q w.heap.size [.int .i32 f, .int .i32 b, .int .u8 (bI a)] := by rw [hQ]; exact Bq.new w _ _
 have CT := Vd (kw f b a hf hb Q)
 have CS : Hid (decide (zf ⟨f, b, a⟩ = ⟨f, b, a⟩) = (decide (plC f = f) && decide (plC b = b))) := Vd (by
  have e : (zf ⟨f, b, a⟩ = (⟨f, b, a⟩ : Sty)) ↔ (plC f = f /\ plC b = b) := by
   unfold zf
   simp
  rw [Bool.eq_iff_iff]
  simp [e])
 have HQ := Vd hQ
 have HB := Vd BQ
 have HK := Vd KQ
 have qs : w.heap.size < Q.heap.size := by rw [hQ]; simp
 generalize decide (zf ⟨f, b, a⟩ = ⟨f, b, a⟩) = D at *
 generalize plC f = f2 at *
 generalize plC b = b2 at *
 have k0 := HK.out.c 0 _ rfl
 have k1 := HK.out.c 1 _ rfl
 have k2 := HK.out.c 2 _ rfl
 clear hQ BQ KQ hf hb
 go_enter Tryz.func73, Tryz.ntmps73
 go_upto_region 1 with fail
 rw [<- HQ.out]
 clear HQ
 go_wp2_with fail
 refine CT.out.mono ?_; rintro e w1 ⟨rfl, hw1⟩
 have HBW := Vd (HB.out.trans (hw1.mono HB.out.size))
 have l0 := (HK.out.keep hw1 qs).c 0 _ rfl
 have l1 := (HK.out.keep hw1 qs).c 1 _ rfl
 have l2 := (HK.out.keep hw1 qs).c 2 _ rfl
 have LT := Vd (Nat.lt_of_lt_of_le qs hw1.size)
 obtain ⟨V, hV⟩ : ∃ V, V = w1.alloc (.cells #[.int .i32 f2, .int .i32 b2, .int .u8 (bI a)] 56) := ⟨_, rfl⟩
 have bv : Below w1.heap.size w1 V := by rw [hV]; exact (Below.refl _ w1).alloc Vf _
 have KV : Bq V w1.heap.size [.int .i32 f2, .int .i32 b2, .int .u8 (bI a)] := by rw [hV]; exact Bq.new w1 _ _
 have HV := Vd hV
 have m0 := KV.c 0 _ rfl
 have m1 := KV.c 1 _ rfl
 have m2 := KV.c 2 _ rfl
 have n0 := ((HK.out.keep hw1 qs).keep bv LT.out).c 0 _ rfl
 have n1 := ((HK.out.keep hw1 qs).keep bv LT.out).c 1 _ rfl
 have n2 := ((HK.out.keep hw1 qs).keep bv LT.out).c 2 _ rfl
 have HBV := Vd (HBW.out.trans (bv.mono HBW.out.size))
 clear CT hw1 hV bv KV k0 k1 k2
 go_upto_region 2 with fail
 rw [<- HV.out]
 clear HV l0 l1 l2
 by_cases e1 : f2 = f
 ·have q1 : (f2 == f) = true := by rw [e1]; exact beq_self_eq_true f
  by_cases e2 : b2 = b
  ·have q2 : (b2 == b) = true := by rw [e2]; exact beq_self_eq_true b
   have R := Vd (show D = true by rw [CS.out, decide_eq_true e1, decide_eq_true e2]; rfl)
   subst e1
   subst e2
   go_wp2_with fail
   go_ret
   exact ⟨by rw [R.out]; simp, HBV.out⟩
  ·have q2 : (b2 == b) = false := by rw [beq_eq_false_iff_ne]; exact e2
   have R := Vd (show D = false by rw [CS.out, decide_eq_true e1, decide_eq_false e2]; rfl)
   go_wp2_with fail
   go_ret
   exact ⟨by rw [R.out]; simp [e2], HBV.out⟩
 ·have q1 : (f2 == f) = false := by rw [beq_eq_false_iff_ne]; exact e1
  have R := Vd (show D = false by rw [CS.out, decide_eq_false e1]; rfl)
  go_wp2_with fail
  go_ret
  exact ⟨by rw [R.out]; simp [e1], HBV.out⟩
theorem sing_eq (c : Cel) : zT c = (decide (c.wide = 1) && decide (oneB c.text = some 1) && decide (zf c.st = c.st)) := rfl
set_option maxHeartbeats 16000000 in
set_option maxRecDepth 100000 in
theorem XW (x : Cel) (ok : okR x) (w : World) : Calls Tryz.prog 56 #[.agg #[.string x.text, .int .i8 x.wide, .int .i32 x.st.fg, .int .i32 x.st.bg, .int .u8 (bI x.st.at_)]] w fun e w' => e = .returned (.bool (zT x)) /\ Below w.heap.size w w' := by
 obtain ⟨tx, wd, st⟩ := x
 obtain ⟨sz, w0, w1', fg, bg⟩ := ok
 dsimp only at *
 have PL := Vd (fun W => QF st fg bg W)
 have SE := Vd (sing_eq ⟨tx, wd, st⟩)
 dsimp only at SE
 generalize zT ⟨tx, wd, st⟩ = F at *
 generalize decide (zf st = st) = D at *
 obtain ⟨f, b, a⟩ := st
 dsimp only at *
 obtain ⟨Q, hQ⟩ : ∃ Q, Q = w.alloc (.cells #[.string tx, .int .i8 wd, .int .i32 f, .int .i32 b, .int .u8 (bI a)] 58) := ⟨_, rfl⟩
 have BQ : Below w.heap.size w Q := by rw [hQ]; exact (Below.refl _ w).alloc Vf _
 have KQ : Bq Q w.heap.size [.string tx, .int .i8 wd, .int .i32 f, .int .i32 b, .int .u8 (bI a)] := by rw [hQ]; exact Bq.new w _ _
 have OT := Vd (QE tx sz Q)
 have HQ := Vd hQ
 have HB := Vd BQ
 have HK := Vd KQ
 have qs : w.heap.size < Q.heap.size := by rw [hQ]; simp
 have k0 := HK.out.c 0 _ rfl
 generalize oneB tx = o at *
 clear hQ BQ KQ fg bg sz w0 w1'
 go_enter Tryz.func56, Tryz.ntmps56
 go_upto_region 1 with fail
 rw [<- HQ.out]
 clear HQ
 cases o with
 | none =>
  have R := Vd (show F = false by rw [SE.out, decide_eq_false (show ¬ (none : Option Int) = some 1 by intro z; cases z)]; cases decide (wd = 1) <;> rfl)
  unfold oneV at OT
  go_wp2_with fail
  refine OT.out.mono ?_; rintro e w1 ⟨rfl, hw1⟩
  obtain ⟨V, hV⟩ : ∃ V, V = w1.alloc (.cells #[.string ⟨#[]⟩, .int .i64 0] 109) := ⟨_, rfl⟩
  have bv : Below w1.heap.size w1 V := by rw [hV]; exact (Below.refl _ w1).alloc Vf _
  have HV := Vd hV
  have n1 := ((HK.out.keep hw1 qs).keep bv (Nat.lt_of_lt_of_le qs hw1.size)).c 1 _ rfl
  have HBV := Vd ((HB.out.trans (hw1.mono HB.out.size)).trans (bv.mono (Nat.le_trans HB.out.size hw1.size)))
  clear OT hw1 hV bv k0
  go_upto_region 2 with fail
  rw [<- HV.out]
  clear HV
  by_cases e1 : wd = 1
  ·have q1 : (wd == 1) = true := by rw [e1]; rfl
   clear e1
   go_wp2_with fail
   go_ret
   exact ⟨by rw [R.out]; rfl, HBV.out⟩
  ·have q1 : (wd == 1) = false := by rw [beq_eq_false_iff_ne]; exact e1
   clear e1
   go_wp2_with fail
   go_ret
   exact ⟨by rw [R.out]; rfl, HBV.out⟩
 | some u =>
  have ST := Vd (show F = (decide (wd = 1) && decide (u = 1) && D) by
   rw [SE.out]
   congr 2
   rw [Bool.eq_iff_iff]
   simp)
  unfold oneV at OT
  go_wp2_with fail
  refine OT.out.mono ?_; rintro e w1 ⟨rfl, hw1⟩
  obtain ⟨V, hV⟩ : ∃ V, V = w1.alloc (.cells #[.string tx, .int .i64 u] 109) := ⟨_, rfl⟩
  have bv : Below w1.heap.size w1 V := by rw [hV]; exact (Below.refl _ w1).alloc Vf _
  have KV : Bq V w1.heap.size [.string tx, .int .i64 u] := by rw [hV]; exact Bq.new w1 _ _
  have HV := Vd hV
  have KN := ((HK.out.keep hw1 qs).keep bv (Nat.lt_of_lt_of_le qs hw1.size))
  have n1 := KN.c 1 _ rfl
  have n2 := KN.c 2 _ rfl
  have n3 := KN.c 3 _ rfl
  have n4 := KN.c 4 _ rfl
  have m1 := KV.c 1 _ rfl
  have HBV := Vd ((HB.out.trans (hw1.mono HB.out.size)).trans (bv.mono (Nat.le_trans HB.out.size hw1.size)))
  have PL := Vd (PL.out V)
  clear OT hw1 hV bv k0 KN KV SE
  go_upto_region 2 with fail
  rw [<- HV.out]
  clear HV
  by_cases e1 : wd = 1
  ·have q1 : (wd == 1) = true := by rw [e1]; rfl
   by_cases e2 : u = 1
   ·have q2 : (u == 1) = true := by rw [e2]; rfl
    have R := Vd (show F = D by rw [ST.out, decide_eq_true e1, decide_eq_true e2]; rfl)
    clear e1 e2
    go_wp2_with fail
    refine PL.out.mono ?_; rintro e w3 ⟨rfl, h3⟩
    have HB3 := Vd (HBV.out.trans (h3.mono HBV.out.size))
    clear h3 PL
    go_wp2_with fail
    go_ret
    exact ⟨by rw [R.out]; rfl, HB3.out⟩
   ·have q2 : (u == 1) = false := by rw [beq_eq_false_iff_ne]; exact e2
    have R := Vd (show F = false by rw [ST.out, decide_eq_true e1, decide_eq_false e2]; rfl)
    clear e1 e2
    go_wp2_with fail
    go_ret
    exact ⟨by rw [R.out]; rfl, HBV.out⟩
  ·have q1 : (wd == 1) = false := by rw [beq_eq_false_iff_ne]; exact e1
   have R := Vd (show F = false by rw [ST.out, decide_eq_false e1]; rfl)
   clear e1
   go_wp2_with fail
   go_ret
   exact ⟨by rw [R.out]; rfl, HBV.out⟩
end
end
section
open Go Go.RowKit Go.Sort
section
theorem pair_eq (a b : Cel) : qe a b = (decide (a.wide = 2) && decide (oneB a.text = some 2) && decide (b.wide = 0) && decide (b.text = ⟨#[]⟩) && decide (a.st = b.st) && decide (zf a.st = a.st)) := rfl
theorem st_eq (a b : Sty) : decide (a = b) = (decide (a.fg = b.fg) && decide (a.bg = b.bg) && decide (bI a.at_ = bI b.at_)) := by
 obtain ⟨f, g, x⟩ := a
 obtain ⟨f', g', x'⟩ := b
 have e : (bI x = bI x') ↔ x = x' := ⟨fun z => by unfold bI at z; exact BitVec.eq_of_toNat_eq (by omega), fun z => by rw [z]⟩
 rw [Bool.eq_iff_iff]
 simp [e, and_assoc]
set_option maxHeartbeats 32000000 in
set_option maxRecDepth 100000 in
theorem ref_Pair (x y : Cel) (ok : okR x) (ok2 : okR y) (w : World) : Calls Tryz.prog 55 #[.agg #[.string x.text, .int .i8 x.wide, .int .i32 x.st.fg, .int .i32 x.st.bg, .int .u8 (bI x.st.at_)], .agg #[.string y.text, .int .i8 y.wide, .int .i32 y.st.fg, .int .i32 y.st.bg, .int .u8 (bI y.st.at_)]] w fun e w' => e = .returned (.bool (qe x y)) /\ Below w.heap.size w w' := by
 obtain ⟨ta, wda, sa⟩ := x
 obtain ⟨tb, wdb, sb⟩ := y
 obtain ⟨sz, w0, w1', fg, bg⟩ := ok
 clear ok2
 dsimp only at *
 have PL := Vd (fun W => QF sa fg bg W)
 have SE := Vd (pair_eq ⟨ta, wda, sa⟩ ⟨tb, wdb, sb⟩)
 dsimp only at SE
 rw [st_eq sa sb] at SE
 generalize qe ⟨ta, wda, sa⟩ ⟨tb, wdb, sb⟩ = F at *
 generalize decide (zf sa = sa) = D at *
 obtain ⟨fa, ba, aa⟩ := sa
 obtain ⟨fb, bb, ab⟩ := sb
 dsimp only at *
 obtain ⟨Q0, hQ0⟩ : ∃ Q0, Q0 = w.alloc (.cells #[.string ta, .int .i8 wda, .int .i32 fa, .int .i32 ba, .int .u8 (bI aa)] 58) := ⟨_, rfl⟩
 have B0 : Below w.heap.size w Q0 := by rw [hQ0]; exact (Below.refl _ w).alloc Vf _
 have K0 : Bq Q0 w.heap.size [.string ta, .int .i8 wda, .int .i32 fa, .int .i32 ba, .int .u8 (bI aa)] := by rw [hQ0]; exact Bq.new w _ _
 have z0 : Q0.heap.size = w.heap.size + 1 := by rw [hQ0]; simp
 obtain ⟨Q, hQ⟩ : ∃ Q, Q = Q0.alloc (.cells #[.string tb, .int .i8 wdb, .int .i32 fb, .int .i32 bb, .int .u8 (bI ab)] 58) := ⟨_, rfl⟩
 have B1 : Below Q0.heap.size Q0 Q := by rw [hQ]; exact (Below.refl _ Q0).alloc Vf _
 have KA : Bq Q w.heap.size [.string ta, .int .i8 wda, .int .i32 fa, .int .i32 ba, .int .u8 (bI aa)] := K0.keep B1 (by omega)
 have KB : Bq Q (w.heap.size + 1) [.string tb, .int .i8 wdb, .int .i32 fb, .int .i32 bb, .int .u8 (bI ab)] := by rw [hQ, <- z0]; exact Bq.new Q0 _ _
 have z1 : Q.heap.size = w.heap.size + 2 := by rw [hQ]; simp [z0]
 have HB := Vd (B0.trans (B1.mono B0.size))
 have OT := Vd (QE ta sz Q)
 have HQ := Vd (show Q = (w.alloc (.cells #[.string ta, .int .i8 wda, .int .i32 fa, .int .i32 ba, .int .u8 (bI aa)] 58)).alloc (.cells #[.string tb, .int .i8 wdb, .int .i32 fb, .int .i32 bb, .int .u8 (bI ab)] 58) by rw [hQ, hQ0])
 have HA := Vd KA
 have HC := Vd KB
 have k0 := HA.out.c 0 _ rfl
 have ZS := Vd z1
 generalize oneB ta = o at *
 clear hQ hQ0 B0 B1 K0 KA KB z0 z1 fg bg sz w0 w1'
 go_enter Tryz.func55, Tryz.ntmps55
 go_upto_region 1 with fail
 rw [<- HQ.out]
 clear HQ
 cases o with
 | none =>
  have R := Vd (show F = false by rw [SE.out, decide_eq_false (show ¬ (none : Option Int) = some 2 by intro z; cases z)]; simp)
  unfold oneV at OT
  go_wp2_with fail
  refine OT.out.mono ?_; rintro e w1 ⟨rfl, hw1⟩
  obtain ⟨V, hV⟩ : ∃ V, V = w1.alloc (.cells #[.string ⟨#[]⟩, .int .i64 0] 109) := ⟨_, rfl⟩
  have bv : Below w1.heap.size w1 V := by rw [hV]; exact (Below.refl _ w1).alloc Vf _
  have HV := Vd hV
  have n1 := ((HA.out.keep hw1 (by rw [ZS.out]; omega)).keep bv (by have := hw1.size; rw [ZS.out] at this; omega)).c 1 _ rfl
  have HBV := Vd ((HB.out.trans (hw1.mono HB.out.size)).trans (bv.mono (Nat.le_trans HB.out.size hw1.size)))
  clear OT hw1 hV bv k0
  go_upto_region 2 with fail
  rw [<- HV.out]
  clear HV
  by_cases e1 : wda = 2
  ·have q1 : (wda == 2) = true := by rw [e1]; rfl
   clear e1
   go_wp2_with fail
   go_ret
   exact ⟨by rw [R.out]; rfl, HBV.out⟩
  ·have q1 : (wda == 2) = false := by rw [beq_eq_false_iff_ne]; exact e1
   clear e1
   go_wp2_with fail
   go_ret
   exact ⟨by rw [R.out]; rfl, HBV.out⟩
 | some u =>
  have ST := Vd (show F = (decide (wda = 2) && decide (u = 2) && decide (wdb = 0) && decide (tb = ⟨#[]⟩) && (decide (fa = fb) && decide (ba = bb) && decide (bI aa = bI ab)) && D) by
   rw [SE.out]
   congr 5
   rw [Bool.eq_iff_iff]
   simp)
  unfold oneV at OT
  go_wp2_with fail
  refine OT.out.mono ?_; rintro e w1 ⟨rfl, hw1⟩
  obtain ⟨V, hV⟩ : ∃ V, V = w1.alloc (.cells #[.string ta, .int .i64 u] 109) := ⟨_, rfl⟩
  have bv : Below w1.heap.size w1 V := by rw [hV]; exact (Below.refl _ w1).alloc Vf _
  have KV : Bq V w1.heap.size [.string ta, .int .i64 u] := by rw [hV]; exact Bq.new w1 _ _
  have HV := Vd hV
  have KN := ((HA.out.keep hw1 (by rw [ZS.out]; omega)).keep bv (by have := hw1.size; rw [ZS.out] at this; omega))
  have KM := ((HC.out.keep hw1 (by rw [ZS.out]; omega)).keep bv (by have := hw1.size; rw [ZS.out] at this; omega))
  have n1 := KN.c 1 _ rfl
  have n2 := KN.c 2 _ rfl
  have n3 := KN.c 3 _ rfl
  have n4 := KN.c 4 _ rfl
  have o0 := KM.c 0 _ rfl
  have o1 := KM.c 1 _ rfl
  have o2 := KM.c 2 _ rfl
  have o3 := KM.c 3 _ rfl
  have o4 := KM.c 4 _ rfl
  have m1 := KV.c 1 _ rfl
  have HBV := Vd ((HB.out.trans (hw1.mono HB.out.size)).trans (bv.mono (Nat.le_trans HB.out.size hw1.size)))
  have PL := Vd (PL.out V)
  clear OT hw1 hV bv k0 KN KM KV SE
  go_upto_region 2 with fail
  rw [<- HV.out]
  clear HV
  by_cases e1 : wda = 2
  ·have q1 : (wda == 2) = true := by rw [e1]; rfl
   by_cases e2 : u = 2
   ·have q2 : (u == 2) = true := by rw [e2]; rfl
    by_cases e3 : wdb = 0
    ·have q3 : (wdb == 0) = true := by rw [e3]; rfl
     by_cases e4 : tb = ⟨#[]⟩
     ·have q4 : tb.toList = [] := (kH tb).2 e4
      by_cases e5 : fa = fb
      ·have q5 : (fa == fb) = true := by rw [e5]; exact beq_self_eq_true fb
       by_cases e6 : ba = bb
       ·have q6 : (ba == bb) = true := by rw [e6]; exact beq_self_eq_true bb
        by_cases e7 : bI aa = bI ab
        ·have q7 : (bI aa == bI ab) = true := by rw [e7]; exact beq_self_eq_true (bI ab)
         have R := Vd (show F = D by rw [ST.out]; simp [e1, e2, e3, e4, e5, e6, e7])
         have PL : Hid (Calls Tryz.prog 73 #[.agg #[.int .i32 fb, .int .i32 bb, .int .u8 (bI ab)]] V fun e w' => e = .returned (.bool D) /\ Below V.heap.size V w') := Vd (by have p := PL.out; unfold styV at p; rw [e5, e6, e7] at p; exact p)
         clear e1 e2 e3 e4
         go_wp2_with fail
         refine PL.out.mono ?_; rintro e w3 ⟨rfl, h3⟩
         have HB3 := Vd (HBV.out.trans (h3.mono HBV.out.size))
         clear h3 PL
         go_wp2_with fail
         go_ret
         exact ⟨by rw [R.out]; rfl, HB3.out⟩
        ·have q7 : (bI aa == bI ab) = false := by rw [beq_eq_false_iff_ne]; exact e7
         have R := Vd (show F = false by rw [ST.out]; simp [e7])
         go_wp2_with fail
         go_ret
         exact ⟨by rw [R.out]; rfl, HBV.out⟩
       ·have q6 : (ba == bb) = false := by rw [beq_eq_false_iff_ne]; exact e6
        have R := Vd (show F = false by rw [ST.out]; simp [e6])
        go_wp2_with fail
        go_ret
        exact ⟨by rw [R.out]; rfl, HBV.out⟩
      ·have q5 : (fa == fb) = false := by rw [beq_eq_false_iff_ne]; exact e5
       have R := Vd (show F = false by rw [ST.out]; simp [e5])
       go_wp2_with fail
       go_ret
       exact ⟨by rw [R.out]; rfl, HBV.out⟩
     ·have q4 : ¬ tb.toList = [] := fun z => e4 ((kH tb).1 z)
      have R := Vd (show F = false by rw [ST.out]; simp [e4])
      go_wp2_with fail
      go_ret
      exact ⟨by rw [R.out]; rfl, HBV.out⟩
    ·have q3 : (wdb == 0) = false := by rw [beq_eq_false_iff_ne]; exact e3
     have R := Vd (show F = false by rw [ST.out]; simp [e3])
     go_wp2_with fail
     go_ret
     exact ⟨by rw [R.out]; rfl, HBV.out⟩
   ·have q2 : (u == 2) = false := by rw [beq_eq_false_iff_ne]; exact e2
    have R := Vd (show F = false by rw [ST.out]; simp [e2])
    go_wp2_with fail
    go_ret
    exact ⟨by rw [R.out]; rfl, HBV.out⟩
  ·have q1 : (wda == 2) = false := by rw [beq_eq_false_iff_ne]; exact e1
   have R := Vd (show F = false by rw [ST.out]; simp [e1])
   go_wp2_with fail
   go_ret
   exact ⟨by rw [R.out]; rfl, HBV.out⟩
end
end
section
open Go Go.RowKit Go.Sort
section
theorem jE {w : World} {B : Nat} {ad : Addr} {L : List Cel} (h : Sees w B (some ad) (zc L)) (k : Nat) (hk : k < L.length) :
  w.cell? (ad.add (k * 5)) = some (.string (L[k]).text) /\ w.cell? ⟨(ad.add (k * 5)).block, (ad.add (k * 5)).off + 1, none⟩ = some (.int .i8 (L[k]).wide) /\ w.cell? ⟨(ad.add (k * 5)).block, (ad.add (k * 5)).off + 2, none⟩ = some (.int .i32 (L[k]).st.fg) /\ w.cell? ⟨(ad.add (k * 5)).block, (ad.add (k * 5)).off + 3, none⟩ = some (.int .i32 (L[k]).st.bg) /\ w.cell? ⟨(ad.add (k * 5)).block, (ad.add (k * 5)).off + 4, none⟩ = some (.int .u8 (bI (L[k]).st.at_)) := by
 have d := Sees.dropV (k * 5) h
 rw [<- kx, List.drop_eq_getElem_cons hk] at d
 obtain ⟨a2, e, _, c0, c1, c2, c3, c4⟩ := vw d
 cases e
 exact ⟨c0, c1, c2, c3, c4⟩
theorem row_drop {L : List Cel} {i : Nat} (h : i < L.length) : rowR (L.drop i) = if h2 : i + 1 < L.length then (if qe L[i] L[i + 1] = true then rowR (L.drop (i + 2)) else if zT L[i] = true then rowR (L.drop (i + 1)) else false) else zT L[i] := by
 rw [List.drop_eq_getElem_cons h]
 by_cases h2 : i + 1 < L.length
 ·rw [dif_pos h2, List.drop_eq_getElem_cons h2]
  rfl
 ·rw [dif_neg h2, List.drop_eq_nil_of_le (by omega)]
  rfl
set_option maxHeartbeats 32000000 in
set_option maxRecDepth 100000 in
theorem ref_Row (A : Option Addr) (c : Nat) (L : List Cel) (hl : L.length <= 1000000000000) (ok : ∀ x ∈ L, okR x) (w : World) (S : Sees w w.heap.size A (zc L)) :
  Calls Tryz.prog 36 #[.slice A L.length c] w fun e w' => e = .returned (.bool (rowR L)) /\ Below w.heap.size w w' := by
 have HS := Vd S
 have HO := Vd ok
 obtain ⟨n, hn⟩ : ∃ n, n = L.length := ⟨_, rfl⟩
 have HN := Vd hn
 obtain ⟨R, hR⟩ : ∃ R, R = rowR L := ⟨_, rfl⟩
 have HR := Vd hR
 rw [<- hn] at hl ⊢
 rw [<- hR]
 clear S ok hn hR
 go_enter Tryz.func36, Tryz.ntmps36
 go_wp2_with fail
 go_loopw [3] (fun s3 wr => ∃ i : Nat, i <= n /\ s3 = .int .i64 (i : Int) /\ Hid (rowR (L.drop i) = R) /\ Hid (Below w.heap.size w wr)) (fun s3 _ => n - (intOf s3).toNat)
 case atStart => exact ⟨0, Nat.zero_le _, rfl, Vd (by rw [List.drop_zero]; exact HR.out.symm), Vd (Below.refl _ _)⟩
 case round =>
  obtain ⟨i, hi, rfl, hI, hb⟩ := hrel
  by_cases lt : i < n
  ·have il : i < L.length := by rw [<- HN.out]; exact lt
   have ne : zc L ≠ [] := fun z => by have := congrArg List.length z; rw [jo] at this; simp at this; omega
   obtain ⟨ad, rfl, hab, _⟩ := HS.out ne
   have ST := hI.out
   rw [row_drop il] at ST
   have p0 : (0 : Int) <= (i : Int) := by omega
   have p1 : (i : Int) < (n : Int) := by omega
   have p2 : (i : Int).toNat = i := by omega
   have p3 := Ve ((i : Int) + 1) (by omega)
   have p4 := Ve ((i : Int) + 2) (by omega)
   have BD := Vd (fun q => j5 q wr hb.out)
   have CA := Vd (fun (W : World) (hB : Below w.heap.size w W) => jE (HS.out.below hB Vf) i il)
   have SA := Vd (fun W => XW L[i] (HO.out _ (List.getElem_mem il)) W)
   clear hI ne
   by_cases l2 : i + 1 < n
   ·have il2 : i + 1 < L.length := by rw [<- HN.out]; exact l2
    have p5 : (i : Int) + 1 < (n : Int) := by omega
    have p6 : (0 : Int) <= (i : Int) + 1 := by omega
    have p7 : ((i : Int) + 1).toNat = i + 1 := by omega
    rw [dif_pos il2] at ST
    have CB := Vd (fun (W : World) (hB : Below w.heap.size w W) => jE (HS.out.below hB Vf) (i + 1) il2)
    have PA := Vd (fun W => ref_Pair L[i] L[i + 1] (HO.out _ (List.getElem_mem il)) (HO.out _ (List.getElem_mem il2)) W)
    generalize L[i] = a at *
    generalize L[i + 1] = b at *
    obtain ⟨ta, wa, fa, ba, aa⟩ := a
    obtain ⟨tb, wb, fb, bb, ab⟩ := b
    dsimp only at CA CB PA SA
    obtain ⟨P, hP⟩ : ∃ P, P = qe ⟨ta, wa, fa, ba, aa⟩ ⟨tb, wb, fb, bb, ab⟩ := ⟨_, rfl⟩
    obtain ⟨Q, hQ⟩ : ∃ Q, Q = zT ⟨ta, wa, fa, ba, aa⟩ := ⟨_, rfl⟩
    rw [<- hP] at PA ST
    rw [<- hQ] at SA ST
    replace ST := Vd ST
    have x0 := fun q => (CA.out _ (BD.out q)).1
    have x1 := fun q => (CA.out _ (BD.out q)).2.1
    have x2 := fun q => (CA.out _ (BD.out q)).2.2.1
    have x3 := fun q => (CA.out _ (BD.out q)).2.2.2.1
    have x4 := fun q => (CA.out _ (BD.out q)).2.2.2.2
    have y0 := fun q => (CB.out _ (BD.out q)).1
    have y1 := fun q => (CB.out _ (BD.out q)).2.1
    have y2 := fun q => (CB.out _ (BD.out q)).2.2.1
    have y3 := fun q => (CB.out _ (BD.out q)).2.2.2.1
    have y4 := fun q => (CB.out _ (BD.out q)).2.2.2.2
    clear hP hQ CB
    go_wp2_with fail
    refine qP 15 (by kernel_rfl) (by kernel_rfl) ?_
    simp only [Vg, Vh, Vi, Vj]
    repeat (first | go_big_quiet_step (fail) | quiet_step (fail))
    refine wpQuiet_nil ?_
    intro _ hw'
    obtain ⟨nq, hw''⟩ := hw'
    subst hw''
    have hb := Vd (BD.out nq)
    have PA := Vd (PA.out (wr.drewN nq))
    clear x0 x1 x2 x3 x4 y0 y1 y2 y3 y4 BD
    generalize wr.drewN nq = V at *
    go_wp2_with fail
    refine PA.out.mono ?_; rintro e w1 ⟨rfl, h1⟩
    have hb := Vd (hb.out.trans (h1.mono hb.out.size))
    clear h1 PA
    cases P with
    | true =>
     have NX := Vd (show rowR (L.drop (i + 2)) = R by rw [<- ST.out, if_pos rfl])
     go_wp2_with fail
     go_roundw
     case rel => exact ⟨i + 2, by omega, by go_num, NX, hb⟩
     case measure => simp [intOf]; omega
    | false =>
     obtain ⟨x0, x1, x2, x3, x4⟩ := CA.out w1 hb.out
     have SA := Vd (SA.out w1)
     clear CA
     go_wp2_with fail
     refine SA.out.mono ?_; rintro e w2 ⟨rfl, h2⟩
     have hb := Vd (hb.out.trans (h2.mono hb.out.size))
     clear h2 SA x0 x1 x2 x3 x4
     cases Q with
     | true =>
      have NX := Vd (show rowR (L.drop (i + 1)) = R by rw [<- ST.out, if_neg (by simp), if_pos rfl])
      go_wp2_with fail
      go_roundw
      case rel => exact ⟨i + 1, by omega, by go_num, NX, hb⟩
      case measure => simp [intOf]; omega
     | false =>
      have FR := Vd (show R = false by rw [<- ST.out, if_neg (by simp), if_neg (by simp)])
      go_wp2_with fail
      go_ret
      exact ⟨by rw [FR.out]; rfl, hb.out⟩
   ·have p5 := decide_eq_false (show ¬ (i : Int) + 1 < (n : Int) by omega)
    rw [dif_neg (by rw [<- HN.out]; exact l2)] at ST
    have ei : i + 1 = n := by omega
    generalize L[i] = a at *
    obtain ⟨ta, wa, fa, ba, aa⟩ := a
    dsimp only at CA SA
    obtain ⟨Q, hQ⟩ : ∃ Q, Q = zT ⟨ta, wa, fa, ba, aa⟩ := ⟨_, rfl⟩
    rw [<- hQ] at SA ST
    replace ST := Vd ST
    have HEI := Vd ei
    clear hQ ei
    go_wp2_with fail
    refine qP 15 (by kernel_rfl) (by kernel_rfl) ?_
    simp only [Vg, Vh, Vi, Vj]
    repeat (first | go_big_quiet_step (fail) | quiet_step (fail))
    refine wpQuiet_nil ?_
    intro _ hw'
    obtain ⟨nq, hw''⟩ := hw'
    subst hw''
    have hb := Vd (BD.out nq)
    clear BD
    generalize wr.drewN nq = V at *
    obtain ⟨x0, x1, x2, x3, x4⟩ := CA.out V hb.out
    have SA := Vd (SA.out V)
    clear CA
    go_wp2_with fail
    refine SA.out.mono ?_; rintro e w2 ⟨rfl, h2⟩
    have hb := Vd (hb.out.trans (h2.mono hb.out.size))
    clear h2 SA x0 x1 x2 x3 x4
    cases Q with
    | true =>
     have NX := Vd (show rowR (L.drop (i + 1)) = R by rw [<- ST.out, HEI.out, HN.out, List.drop_length]; rfl)
     go_wp2_with fail
     go_roundw
     case rel => exact ⟨i + 1, by omega, by go_num, NX, hb⟩
     case measure => simp [intOf]; omega
    | false =>
     have FR := Vd (show R = false from ST.out.symm)
     go_wp2_with fail
     go_ret
     exact ⟨by rw [FR.out]; rfl, hb.out⟩
  ·have e : i = n := by omega
   subst e
   have p5 : ¬ (i : Int) < (i : Int) := by omega
   have FR := Vd (show R = true by rw [<- hI.out, HN.out, List.drop_length]; rfl)
   go_wp2_with fail
   go_ret
   exact ⟨by rw [FR.out]; rfl, hb.out⟩
set_option maxHeartbeats 8000000 in
set_option maxRecDepth 100000 in
theorem QG (a b : Int) (w : World) : Calls Tryz.prog 35 #[.int .i64 a, .int .i64 b] w fun e w' => e = .returned (.bool (qJ a b)) /\ w' = w := by
 have SE : Hid (qJ a b = (decide (0 <= a) && decide (a <= 4096) && decide (0 <= b) && decide (b <= 4096) && decide (a * b <= 1048576))) := Vd rfl
 generalize qJ a b = D at *
 by_cases c1 : 0 <= a
 ·by_cases c2 : a <= 4096
  ·by_cases c3 : 0 <= b
   ·by_cases c4 : b <= 4096
    ·have m1 : a * b <= 4096 * 4096 := Int.mul_le_mul c2 c4 c3 (by decide)
     have m0 : 0 <= a * b := Int.mul_nonneg c1 c3
     have wm := Ve (a * b) (by omega)
     by_cases c5 : a * b <= 1048576
     ·have R := Vd (show D = true by rw [SE.out]; simp [c1, c2, c3, c4, c5])
      go_enter Tryz.func35, Tryz.ntmps35
      go_wp2_with fail
      go_ret
      exact ⟨by rw [R.out]; rfl, rfl⟩
     ·have R := Vd (show D = false by rw [SE.out]; simp [c5])
      go_enter Tryz.func35, Tryz.ntmps35
      go_wp2_with fail
      go_ret
      exact ⟨by rw [R.out]; rfl, rfl⟩
    ·have R := Vd (show D = false by rw [SE.out]; simp [c4])
     go_enter Tryz.func35, Tryz.ntmps35
     go_wp2_with fail
     go_ret
     exact ⟨by rw [R.out]; rfl, rfl⟩
   ·have R := Vd (show D = false by rw [SE.out]; simp [c3])
    go_enter Tryz.func35, Tryz.ntmps35
    go_wp2_with fail
    go_ret
    exact ⟨by rw [R.out]; rfl, rfl⟩
  ·have R := Vd (show D = false by rw [SE.out]; simp [c2])
   go_enter Tryz.func35, Tryz.ntmps35
   go_wp2_with fail
   go_ret
   exact ⟨by rw [R.out]; rfl, rfl⟩
 ·have R := Vd (show D = false by rw [SE.out]; simp [c1])
  go_enter Tryz.func35, Tryz.ntmps35
  go_wp2_with fail
  go_ret
  exact ⟨by rw [R.out]; rfl, rfl⟩
end
end
section
open Go Go.RowKit Go.Sort
section
set_option maxHeartbeats 16000000 in
set_option maxRecDepth 100000 in
theorem QH (s : Scr) (A : Option Addr) (c : Nat) (hcp : s.cells.length <= c) (hA : A = none -> c = 0) (hl : s.cells.length <= 1000000000000) (ho : ∀ x ∈ s.cells, okR x) (w : World) (S : Sees w w.heap.size A (zc s.cells)) :
  Calls Tryz.prog 21 #[scrV s A c] w fun e w' => e = .returned (.bool (zi s)) /\ Below w.heap.size w w' := by
 have R1 := Vd (Qp s)
 have R2 := Vd (Qq s)
 have R3 := Vd (Qr s)
 have R4 := Vd (Qs s)
 have ROW : Hid (∀ k, zG s k = (s.cells.drop (k * s.w.toNat)).take s.w.toNat) := Vd (fun _ => rfl)
 have CU : Hid (qN s = if s.shown = true then decide (0 <= s.x) && decide (s.x < s.w) && decide (0 <= s.y) && decide (s.y < s.h) else decide (s.x = 0) && decide (s.y = 0)) := Vd rfl
 have HO := Vd ho
 have HS := Vd S
 have HAN := Vd hA
 generalize zi s = r at *
 generalize qN s = cu at *
 simp only [scrV]
 obtain ⟨N, hN⟩ : ∃ N, N = s.cells.length := ⟨_, rfl⟩
 rw [<- hN] at hcp hl R2 R4 ⊢
 have HN := Vd hN
 clear ho S hA hN
 cases hs : qJ s.w s.h with
 | false =>
  have R := Vd (R1.out hs)
  have SZ := Vd (QG s.w s.h)
  rw [hs] at SZ
  clear hs
  obtain ⟨Q, hQ⟩ : ∃ Q, Q = w.alloc (.cells #[.int .i64 s.w, .int .i64 s.h, .slice A N c, .int .i64 s.x, .int .i64 s.y, .bool s.shown] 24) := ⟨_, rfl⟩
  have BQ := Vd (show Below w.heap.size w Q by rw [hQ]; exact (Below.refl _ w).alloc Vf _)
  have q0 : Q.cell? ⟨w.heap.size, 0, none⟩ = some (.int .i64 s.w) := by rw [hQ]; simp [go_sem]
  have q1 : Q.cell? ⟨w.heap.size, 1, none⟩ = some (.int .i64 s.h) := by rw [hQ]; simp [go_sem]
  have HQ := Vd hQ
  clear hQ
  go_enter Tryz.func21, Tryz.ntmps21
  go_upto_region 1 with fail
  rw [<- HQ.out]
  go_wp2_with fail
  refine (SZ.out _).mono ?_; rintro e w1 ⟨rfl, hw⟩
  rw [hw]
  clear hw
  go_wp2_with fail
  go_ret
  exact ⟨zv (by rw [R.out]), BQ.out⟩
 | true =>
  have SZ := Vd (QG s.w s.h)
  have R5 := Vd (R4.out hs)
  clear R4
  obtain ⟨w0, w1, h0, h1, wh⟩ := qZ hs
  rw [hs] at SZ
  obtain ⟨W, hW⟩ : ∃ W : Nat, s.w = (W : Int) := ⟨s.w.toNat, by omega⟩
  obtain ⟨H, hH⟩ : ∃ H : Nat, s.h = (H : Int) := ⟨s.h.toNat, by omega⟩
  rw [hW, hH] at R2 R5 SZ CU wh ⊢
  rw [hH] at R3
  rw [Int.toNat_natCast] at R3 R5
  rw [hW] at ROW w0 w1
  rw [hH] at h0 h1
  rw [Int.toNat_natCast] at ROW
  obtain ⟨M, hM⟩ : ∃ M : Nat, M = W * H := ⟨_, rfl⟩
  have eM : (W : Int) * (H : Int) = (M : Int) := by rw [hM, Int.natCast_mul]
  have HM := Vd hM
  rw [eM] at R2 R5 wh
  clear hs hW hH hM
  obtain ⟨Q, hQ⟩ : ∃ Q, Q = w.alloc (.cells #[.int .i64 (W : Int), .int .i64 (H : Int), .slice A N c, .int .i64 s.x, .int .i64 s.y, .bool s.shown] 24) := ⟨_, rfl⟩
  have BQ := Vd (show Below w.heap.size w Q by rw [hQ]; exact (Below.refl _ w).alloc Vf _)
  have q0 : Q.cell? ⟨w.heap.size, 0, none⟩ = some (.int .i64 (W : Int)) := by rw [hQ]; simp [go_sem]
  have q1 : Q.cell? ⟨w.heap.size, 1, none⟩ = some (.int .i64 (H : Int)) := by rw [hQ]; simp [go_sem]
  have q2 : Q.cell? ⟨w.heap.size, 2, none⟩ = some (.slice A N c) := by rw [hQ]; simp [go_sem]
  have q3 : Q.cell? ⟨w.heap.size, 3, none⟩ = some (.int .i64 s.x) := by rw [hQ]; simp [go_sem]
  have q4 : Q.cell? ⟨w.heap.size, 4, none⟩ = some (.int .i64 s.y) := by rw [hQ]; simp [go_sem]
  have q5 : Q.cell? ⟨w.heap.size, 5, none⟩ = some (.bool s.shown) := by rw [hQ]; simp [go_sem]
  have HQ := Vd hQ
  by_cases hn : (N : Int) = (M : Int)
  ·have R6 := Vd (R5.out hn)
   clear R5
   have nm : N = M := by omega
   subst nm
   clear hQ
   go_enter Tryz.func21, Tryz.ntmps21
   go_upto_region 1 with fail
   rw [<- HQ.out]
   go_wp2_with fail
   refine (SZ.out _).mono ?_; rintro e w1 ⟨rfl, hw⟩
   rw [hw]
   clear hw HQ
   go_wp2_with fail
   go_loopw [3] (fun i wr => ∃ k : Nat, k <= H /\ i = .int .i64 k /\ Hid (∀ y, y < k -> rowR (zG s y) = true) /\ Hid (Below Q.heap.size Q wr)) (fun i _ => H - (intOf i).toNat)
   case atStart => exact ⟨0, Nat.zero_le _, rfl, Vd (fun y h => by omega), Vd (Below.refl _ _)⟩
   case round =>
    obtain ⟨k, hk, rfl, hr, hbq⟩ := hrel
    have hqs : w.heap.size < Q.heap.size := block_lt_of_cell q0
    have z0 : wr.cell? ⟨w.heap.size, 0, none⟩ = some (.int .i64 (W : Int)) := (hbq.out.cell (p := ⟨w.heap.size, 0, none⟩) hqs).trans q0
    have z2 : wr.cell? ⟨w.heap.size, 2, none⟩ = some (.slice A N c) := (hbq.out.cell (p := ⟨w.heap.size, 2, none⟩) hqs).trans q2
    have z3 : wr.cell? ⟨w.heap.size, 3, none⟩ = some (.int .i64 s.x) := (hbq.out.cell (p := ⟨w.heap.size, 3, none⟩) hqs).trans q3
    have z4 : wr.cell? ⟨w.heap.size, 4, none⟩ = some (.int .i64 s.y) := (hbq.out.cell (p := ⟨w.heap.size, 4, none⟩) hqs).trans q4
    have z5 : wr.cell? ⟨w.heap.size, 5, none⟩ = some (.bool s.shown) := (hbq.out.cell (p := ⟨w.heap.size, 5, none⟩) hqs).trans q5
    have z1 : wr.cell? ⟨w.heap.size, 1, none⟩ = some (.int .i64 (H : Int)) := (hbq.out.cell (p := ⟨w.heap.size, 1, none⟩) hqs).trans q1
    have Z5 := Vd q5
    clear q0 q1 q2 q3 q4 q5
    by_cases lt : k < H
    ·obtain ⟨P, hP⟩ : ∃ P : Nat, P = k * W := ⟨_, rfl⟩
     have eP : (k : Int) * (W : Int) = (P : Int) := by rw [hP, Int.natCast_mul]
     have le : P + W <= N := by
      rw [hP, HM.out, Nat.mul_comm W H, <- Nat.succ_mul]
      exact Nat.mul_le_mul_right _ lt
     have ROWK : zG s k = (s.cells.drop P).take W := by rw [ROW.out, hP]
     have wPW : IntKind.i64.wrap ((P : Int) + (W : Int)) = (P : Int) + (W : Int) := by rw [IntKind.wrap_i64]; omega
     have hs1 : ∀ X, (Instr.slice 22 (.slice A N c) (some (.int .i64 (P : Int))) (some (.int .i64 ((P : Int) + (W : Int)))) none).run Tryz.prog X = .ok (.slice (cutA A c P) W (c - P)) X := fun X => by
      rw [run_slice_lh X 22 A N c (by kernel_rfl) .i64 .i64 (P : Int) ((P : Int) + (W : Int)) (by omega) (by omega) (by omega)]
      have sz : (sizeOf (Tryz.prog.elem 22)).run Tryz.prog X = .ok 5 X := by kernel_rfl
      rw [sz]
      rw [show (P : Int).toNat = P from Int.toNat_natCast P, show ((P : Int) + (W : Int)).toNat = P + W by omega]
      show Result.ok (sliced A P (P + W) c 5) X = _
      have e : P + W - P = W := by omega
      unfold sliced
      rw [e]
      rfl
     have wP : IntKind.i64.wrap (P : Int) = (P : Int) := by rw [IntKind.wrap_i64]; omega
     have SW : Sees wr wr.heap.size (cutA A c P) (zc ((s.cells.drop P).take W)) := by
      rw [ky]
      refine Sees.takeV _ ?_
      refine Qt c P ?_ (by rw [<- HN.out]; exact hcp)
      exact (HS.out.below (BQ.out.trans (hbq.out.mono BQ.out.size)) Vf).more (by have := hbq.out.size; have := BQ.out.size; omega)
     have lw : W = ((s.cells.drop P).take W).length := by rw [List.length_take, List.length_drop, <- HN.out]; omega
     have WH := Vd (show Calls Tryz.prog 36 #[.slice (cutA A c P) W (c - P)] wr fun e w' => e = .returned (.bool (rowR (zG s k))) /\ Below wr.heap.size wr w' from by
      rw [ROWK]
      have q := ref_Row (cutA A c P) (c - P) ((s.cells.drop P).take W) (by rw [<- lw]; omega) (fun x hx => HO.out x (List.mem_of_mem_drop (List.mem_of_mem_take hx))) wr SW
      rw [<- lw] at q
      exact q)
     clear hP SW lw ROWK
     generalize cutA A c P = A2 at *
     go_wp2_with fail
     refine WH.out.mono ?_; rintro e W5 ⟨rfl, hb5⟩
     have B5 := Vd (hbq.out.trans (hb5.mono hbq.out.size))
     have RR := Vd (R3.out k lt)
     have RN := Vd hr.out
     clear hb5 WH
     cases hq : rowR (zG s k) with
     | true =>
      have RQ : Hid (∀ y, y < k + 1 -> rowR (zG s y) = true) := Vd (fun y hy => by
       by_cases e : y = k
       ·rw [e]; exact hq
       ·exact RN.out y (by omega))
      clear hq
      go_wp2_with fail
      go_roundw
      case rel => exact ⟨k + 1, by omega, by go_num, RQ, B5⟩
      case measure => simp [intOf]; omega
     | false =>
      have R := Vd (RR.out hq)
      clear hq
      go_wp2_with fail
      go_ret
      exact ⟨zv (by rw [R.out]), BQ.out.trans (B5.out.mono BQ.out.size)⟩
    ·have e : k = H := by omega
     subst e
     have R := Vd (R6.out hr.out)
     have BB := Vd (BQ.out.trans (hbq.out.mono BQ.out.size))
     clear hr hbq
     generalize s.shown = sn at *
     generalize s.x = X at *
     generalize s.y = Y at *
     cases sn with
     | false =>
      by_cases x0 : X = 0
      ·by_cases y0 : Y = 0
       ·have e1 : (X == 0) = true := beq_iff_eq.2 x0
        have e2 : (Y == 0) = true := beq_iff_eq.2 y0
        have RC : Hid (r = true) := Vd (by rw [R.out, CU.out, x0, y0]; rfl)
        clear x0 y0
        go_wp2_with fail
        go_ret
        exact ⟨zv (by rw [RC.out]), BB.out⟩
       ·have e1 : (X == 0) = true := beq_iff_eq.2 x0
        have e2 : (Y == 0) = false := beq_eq_false_iff_ne.2 y0
        have RC : Hid (r = false) := Vd (by rw [R.out, CU.out, decide_eq_false y0]; simp)
        clear x0 y0
        go_wp2_with fail
        go_ret
        exact ⟨zv (by rw [RC.out]), BB.out⟩
      ·have e1 : (X == 0) = false := beq_eq_false_iff_ne.2 x0
       have RC : Hid (r = false) := Vd (by rw [R.out, CU.out, decide_eq_false x0]; simp)
       clear x0
       go_wp2_with fail
       go_ret
       exact ⟨zv (by rw [RC.out]), BB.out⟩
     | true =>
      have CU2 : Hid (r = (decide (0 <= X) && decide (X < (W : Int)) && decide (0 <= Y) && decide (Y < (k : Int)))) := Vd (by rw [R.out, CU.out, if_pos rfl])
      by_cases x0 : 0 <= X
      ·by_cases x1 : X < (W : Int)
       ·by_cases y0 : 0 <= Y
        ·by_cases y1 : Y < (k : Int)
         ·have RC : Hid (r = true) := Vd (by rw [CU2.out, decide_eq_true x0, decide_eq_true x1, decide_eq_true y0, decide_eq_true y1]; rfl)
          go_wp2_with fail
          go_ret
          exact ⟨zv (by rw [RC.out]), BB.out⟩
         ·have RC : Hid (r = false) := Vd (by rw [CU2.out, decide_eq_false y1]; simp)
          go_wp2_with fail
          go_ret
          exact ⟨zv (by rw [RC.out]), BB.out⟩
        ·have RC : Hid (r = false) := Vd (by rw [CU2.out, decide_eq_false y0]; simp)
         go_wp2_with fail
         go_ret
         exact ⟨zv (by rw [RC.out]), BB.out⟩
       ·have RC : Hid (r = false) := Vd (by rw [CU2.out, decide_eq_false x1]; simp)
        go_wp2_with fail
        go_ret
        exact ⟨zv (by rw [RC.out]), BB.out⟩
      ·have RC : Hid (r = false) := Vd (by rw [CU2.out, decide_eq_false x0]; simp)
       go_wp2_with fail
       go_ret
       exact ⟨zv (by rw [RC.out]), BB.out⟩
  ·have R := Vd (R2.out hn)
   clear hQ
   go_enter Tryz.func21, Tryz.ntmps21
   go_upto_region 1 with fail
   rw [<- HQ.out]
   go_wp2_with fail
   refine (SZ.out _).mono ?_; rintro e w1 ⟨rfl, hw⟩
   rw [hw]
   clear hw HQ
   have hn' : ((N : Int) == (M : Int)) = false := by simpa using hn
   go_wp2_with fail
   go_ret
   exact ⟨zv (by rw [R.out]), BQ.out⟩
end
end
end Go.Proofs.YtifoijbpbigaaaaGreatDoor
