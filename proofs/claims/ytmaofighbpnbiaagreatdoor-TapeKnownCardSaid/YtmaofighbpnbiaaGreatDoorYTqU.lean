/- Shorter pauses: Squeeze, walked. -/
import Derived.Test.YtmaofighbpnbiaaGreatDoorYTqR
namespace Go.Proofs.YtmaofighbpnbiaaGreatDoor
open Go Go.RowKit Go.Sort
set_option linter.unusedVariables false
set_option linter.unusedSimpArgs false
section
theorem timed_take : ∀ (l : List Frm) (w : Int) (k : Nat), timedF w l = true → timedF w (l.take k) = true
 | [], w, k, _ => by rw [List.take_nil]; rfl
 | f :: l, w, 0, _ => rfl
 | f :: l, w, k + 1, h => by
  rw [timedF, Bool.and_eq_true] at h
  rw [List.take_succ_cons, timedF, Bool.and_eq_true]
  exact ⟨h.1, timed_take l f.at_ k h.2⟩
theorem frms_take (L : List FA) (k : Nat) : frms (L.take k) = (frms L).take k := by unfold frms; rw [List.map_take]
set_option maxHeartbeats 16000000 in
set_option maxRecDepth 100000 in
theorem t_Squeeze (A : Option Addr) (c : Nat) (L : List FA) (most : Int) (B : Nat) (W : World) (D : FrsD W B A c L) (hB : B ≤ W.heap.size) (tot : (flatB L).length ≤ 268435456) (hm : -9223372036854775808 ≤ most ∧ most ≤ 9223372036854775807) :
  Calls Tryz.prog 33 #[.slice A L.length c, .int .i64 most] W (SqR W (frms L) most) := by
 have C1 := Lib.hid (t_check A c L B W D hB)
 have HD := Lib.hid D
 have HBB := Lib.hid hB
 have HT := Lib.hid tot
 obtain ⟨l, hl⟩ : ∃ l, l = frms L := ⟨_, rfl⟩
 rw [← hl] at C1 ⊢
 have HL := Lib.hid hl
 obtain ⟨ck, hck⟩ : ∃ ck, ck = checkT l := ⟨_, rfl⟩
 rw [← hck] at C1
 have HCK := Lib.hid hck
 obtain ⟨n, hn⟩ : ∃ n, n = L.length := ⟨_, rfl⟩
 have HN := Lib.hid hn
 rw [← hn] at C1 ⊢
 clear hl D hB tot hck hn
 go_enter Tryz.func33, Tryz.ntmps33
 go_wp2_with fail
 refine C1.out.mono ?_; rintro e w1 ⟨rfl, hb1⟩
 have B1 := Lib.hid hb1
 clear C1 hb1
 by_cases c0 : ck = 0
 case neg =>
  have c0' : (ck == 0) = false := by simpa using c0
  have EN := Lib.hid (sqR_no (W := W) (l := l) (show squeezeT l most = ([], ck) by unfold squeezeT; rw [← HCK.out, if_pos c0]) B1.out)
  go_wp2_with fail
  go_ret2
  exact EN.out
 subst c0
 by_cases m1 : most < 0
 case pos =>
  have EN := Lib.hid (sqR_no (W := W) (l := l) (show squeezeT l most = ([], 2) by unfold squeezeT; rw [← HCK.out, if_neg (by decide), if_pos m1]) B1.out)
  go_wp2_with fail
  go_ret2
  exact EN.out
 obtain ⟨p1, p2, p3⟩ := check_parts HCK.out.symm
 have OKL : ∀ x ∈ L, x.b.bs.length ≤ 1048576 ∧ 0 ≤ x.at_ ∧ x.at_ ≤ 1099511627776 := fun x m => by
  obtain ⟨j, hj, rfl⟩ := List.mem_iff_getElem.1 m
  have hj2 : j < (frms L).length := by rw [frms_len]; exact hj
  rw [HL.out] at p1 p3
  have a := long_each p1 _ (List.getElem_mem hj2)
  have b := timed_mono _ 0 p3 j j hj2 (Nat.le_refl _)
  rw [frms_get L j hj] at a b
  exact ⟨a, b.2⟩
 have ln : L.length ≤ 16384 := by rw [HL.out, frms_len] at p2; exact p2
 have D1 := HD.out.below B1.out HBB.out
 have CP := Lib.hid (t_copied w1.heap.size (.slice none 0 0) [] A c L B 0 w1 ⟨rfl, Or.inl ⟨rfl, rfl⟩⟩ (Nat.le_refl _) D1 (Nat.le_trans HBB.out B1.out.size) ln (fun x m => (OKL x m).1) (fun x m => (OKL x m).2) ⟨by decide, by decide⟩ (by decide))
 rw [← HN.out] at CP
 have BND := Lib.hid (fun k => sq_bounds most (by omega) (L.take k) 0 0 (by decide) (by decide) (by decide) (by rw [frms_take, ← HL.out]; exact timed_take l 0 k p3))
 have OKH := Lib.hid OKL
 have nL : n ≤ 16384 := by have := HN.out; omega
 clear OKL D1 p1 p2 p3 ln
 go_wp2_with fail
 refine CP.out.mono ?_; rintro e w3 ⟨v3, g3, rfl, C3⟩
 have S0 := SqAt.init most B1.out C3
 obtain ⟨Af, cf, e3⟩ := own_slcF S0.own
 rw [← HN.out] at e3
 subst e3
 have HS0 := Lib.hid S0
 clear CP C3 S0
 go_wp2_with fail
 go_loopw [8, 9, 23] (fun s8 s9 s23 wr => ∃ (k : Nat) (a b : Int), k ≤ n ∧ s8 = .int .i64 a ∧ s9 = .int .i64 b ∧ s23 = .int .i64 (k : Int) ∧ Hid (a = atE most 0 0 (L.take k)) ∧ Hid (b = wasE 0 (L.take k)) ∧ Hid (SqAt W g3 most L k (.slice Af n cf) wr)) (fun _ _ s23 _ => n - (intOf s23).toNat)
 case atStart => exact ⟨0, 0, 0, Nat.zero_le _, rfl, rfl, rfl, Lib.hid rfl, Lib.hid rfl, HS0⟩
 case round =>
  obtain ⟨k, a, b, hk, rfl, rfl, rfl, ha, hb, hs⟩ := hrel
  clear HS0
  by_cases lt : k < n
  ·have kl : k < L.length := by rw [← HN.out]; exact lt
   have FD := HD.out.below hs.out.bel HBB.out
   obtain ⟨ad, rfl, lb, z1, z2⟩ := FD.at k kl
   obtain ⟨r, c', e, rb, rl, rne⟩ := hs.out.form (by omega)
   injection e with e1 e2 e3
   subst e1
   subst e3
   obtain ⟨nx1, nx2⟩ := ends_next most L k kl
   have BK := BND.out k
   have BK1 := BND.out (k + 1)
   rw [nx1, nx2, ← ha.out, ← hb.out] at BK1
   rw [← ha.out, ← hb.out] at BK
   have OX := OKH.out _ (List.getElem_mem kl)
   have HNX := Lib.hid (And.intro nx1 nx2)
   obtain ⟨Q4, hQ4⟩ : ∃ Q4, Q4 = wr.alloc (.cells #[.int .i64 (L[k]).at_, .slice (L[k]).b.A (L[k]).b.bs.length (L[k]).b.c] 47) := ⟨_, rfl⟩
   have hb4 : Below wr.heap.size wr Q4 := by rw [hQ4]; exact (Below.refl _ wr).alloc (Nat.le_refl _) _
   have K4 : Bk Q4 wr.heap.size [.int .i64 (L[k]).at_, .slice (L[k]).b.A (L[k]).b.bs.length (L[k]).b.c] 47 := by rw [hQ4]; exact Bk.new wr _ _
   have S4 := hs.out.below hb4
   rw [e2] at S4
   have cl := S4.cell kl
   obtain ⟨u, cl1⟩ := cl.1
   have cl2 := cl.2
   have NX := Lib.hid (fun t (ht : t = a + min most ((L[k]).at_ - b)) => S4.next kl t (by rw [ht, ha.out, hb.out]) rb rne)
   rw [← e2] at NX
   have HQ4 := Lib.hid hQ4
   have b0 := K4.c 0 _ rfl
   have b1 := K4.c 1 _ rfl
   generalize hxt : (L[k]).at_ = xt at *
   generalize (L[k]).b = xb at *
   obtain ⟨xA, xc, bs⟩ := xb
   dsimp only at *
   have q0 : (0 : Int) ≤ (k : Int) := by omega
   have q5 : (k : Int) < (n : Int) := by omega
   have tn : (k : Int).toNat = k := by omega
   have wk : IntKind.i64.wrap ((k : Int) + 1) = (k : Int) + 1 := IntWalk.i64_in _ (by omega)
   have wx : IntKind.i64.wrap (xt - b) = xt - b := IntWalk.i64_in _ (by omega)
   have wa : IntKind.i64.wrap (a + min most (xt - b)) = a + min most (xt - b) := IntWalk.i64_in _ (by omega)
   clear FD hQ4 hb4 K4 S4 cl nx1 nx2 lb BK BK1 OX hs
   go_upto_region 11 with fail
   rw [← HQ4.out]
   clear HQ4 z1 z2
   go_wp2_with fail
   go_roundw
   case rel => exact ⟨k + 1, _, _, by omega, rfl, rfl, by go_num, Lib.hid (by rw [HNX.out.1, ← ha.out, ← hb.out]), Lib.hid (by rw [HNX.out.2]), Lib.hid (NX.out _ rfl)⟩
   case measure => simp [intOf]; omega
  ·have e : k = n := by omega
   subst e
   have q5 : ¬ (k : Int) < (k : Int) := by omega
   have FIN : Hid (SqR W l most (.returned (.tuple #[.slice Af k cf, .int .i64 0])) wr) := Lib.hid (by
    rw [HL.out]
    exact sqR_yes (by rw [← HL.out, ← HCK.out]) (by omega) (by rw [← HN.out]; exact hs.out) (fun x m => (HD.out.ok x m).b.rng))
   clear hs
   go_wp2_with fail
   go_ret2
   exact FIN.out
end
end Go.Proofs.YtmaofighbpnbiaaGreatDoor
