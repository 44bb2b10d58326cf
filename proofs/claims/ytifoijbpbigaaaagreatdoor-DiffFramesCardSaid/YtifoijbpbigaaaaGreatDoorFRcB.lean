/- The document's clusters: Same and Joins (walk). -/
import Derived.Test.YtifoijbpbigaaaaGreatDoorDaFG
set_option linter.unusedVariables false
set_option linter.unusedSimpArgs false
namespace Go.Proofs.YtifoijbpbigaaaaGreatDoor
section
open Go Go.RowKit Go.Sort
section
theorem pair_ne {t1 t2 : ByteArray} {u1 u2 : Int} (h : (t1, u1) ≠ (t2, u2)) : ¬ (t1.toList = t2.toList /\ u1 = u2) := fun ⟨a, b⟩ => by
 by_cases c : t1 = t2
 ·exact h (by rw [c, b])
 ·exact vH c a
set_option maxHeartbeats 16000000 in
set_option maxRecDepth 100000 in
theorem Kx (A1 A2 : Option Addr) (c1 c2 : Nat) (L1 L2 : List (ByteArray × Int)) (hl : L1.length <= 1000000000000) (hl2 : L2.length <= 1000000000000) (w : World) (S1 : Sees w w.heap.size A1 (cls L1)) (S2 : Sees w w.heap.size A2 (cls L2)) :
    Calls Tryz.prog 88 #[.slice A1 L1.length c1, .slice A2 L2.length c2] w fun e w' => e = .returned (.bool (decide (L1 = L2))) /\ Below w.heap.size w w' := by
  have HS1 := Vd S1
  have HS2 := Vd S2
  have YES : Hid (∀ e : Ending, e = .returned (.bool true) -> L1 = L2 -> e = .returned (.bool (decide (L1 = L2)))) := Vd (fun e h1 h2 => by rw [h1, decide_eq_true h2])
  have NO : Hid (∀ e : Ending, e = .returned (.bool false) -> L1 ≠ L2 -> e = .returned (.bool (decide (L1 = L2)))) := Vd (fun e h1 h2 => by rw [h1, decide_eq_false h2])
  have LE : Hid (L1.length ≠ L2.length -> L1 ≠ L2) := Vd (fun h e => h (by rw [e]))
  generalize hD : decide (L1 = L2) = D at *
  obtain ⟨N, hN⟩ : ∃ N, N = L1.length := ⟨_, rfl⟩
  obtain ⟨M, hM⟩ : ∃ M, M = L2.length := ⟨_, rfl⟩
  have HN := Vd hN
  have HM := Vd hM
  rw [<- hN] at hl LE ⊢
  rw [<- hM] at hl2 LE ⊢
  clear S1 S2 hD hN hM
  by_cases nm : N = M
  case neg =>
    have q : ((N : Int) == (M : Int)) = false := by rw [beq_eq_false_iff_ne]; omega
    have NE := Vd (LE.out nm)
    go_enter Tryz.func88, Tryz.ntmps88
    go_wp2_with fail
    go_ret
    exact ⟨NO.out _ rfl NE.out, Below.refl _ _⟩
  subst nm
  go_enter Tryz.func88, Tryz.ntmps88
  go_wp2_with fail
  go_loopw [5] (fun s5 wr => ∃ k : Nat, k <= N /\ s5 = .int .i64 (k : Int) /\ Hid (L1.take k = L2.take k) /\ Hid (Below w.heap.size w wr)) (fun s5 _ => N - (intOf s5).toNat)
  case atStart => exact ⟨0, Nat.zero_le _, rfl, Vd (by simp), Vd (Below.refl _ _)⟩
  case round =>
    obtain ⟨k, hk, rfl, ht, hb⟩ := hrel
    by_cases lt : k < N
    · have k1 : k < L1.length := by rw [<- HN.out]; exact lt
      have k2 : k < L2.length := by rw [<- HM.out]; exact lt
      have BD := Vd (fun q => j5 q wr hb.out)
      obtain ⟨ad, rfl, ab, _⟩ := j6 HS1.out k k1
      obtain ⟨ae, rfl, bb, _⟩ := j6 HS2.out k k2
      have CA : Hid (∀ q, (wr.drewN q).cell? (ad.add (k * 2)) = some (.string (L1[k]).1) /\ (wr.drewN q).cell? ⟨(ad.add (k * 2)).block, (ad.add (k * 2)).off + 1, none⟩ = some (.int .i64 (L1[k]).2)) := Vd (fun q => by
        obtain ⟨_, e, _, h1, h2⟩ := j6 (HS1.out.below (BD.out q) Vf) k k1
        cases e
        exact ⟨h1, h2⟩)
      have CB : Hid (∀ q, (wr.drewN q).cell? (ae.add (k * 2)) = some (.string (L2[k]).1) /\ (wr.drewN q).cell? ⟨(ae.add (k * 2)).block, (ae.add (k * 2)).off + 1, none⟩ = some (.int .i64 (L2[k]).2)) := Vd (fun q => by
        obtain ⟨_, e, _, h1, h2⟩ := j6 (HS2.out.below (BD.out q) Vf) k k2
        cases e
        exact ⟨h1, h2⟩)
      have T1 := Vd (List.take_succ_eq_append_getElem k1)
      have T2 := Vd (List.take_succ_eq_append_getElem k2)
      have DF : Hid (L1[k] ≠ L2[k] -> L1 ≠ L2) := Vd (fun h e => by subst e; exact h rfl)
      generalize L1[k] = x at *
      generalize L2[k] = y at *
      obtain ⟨tx, ux⟩ := x
      obtain ⟨ty, uy⟩ := y
      dsimp only at CA CB
      have z0 := fun q => (CA.out q).1
      have z1 := fun q => (CA.out q).2
      have y0 := fun q => (CB.out q).1
      have y1 := fun q => (CB.out q).2
      have q0 : (0 : Int) <= (k : Int) := by omega
      have q5 : (k : Int) < (N : Int) := by omega
      have tn : (k : Int).toNat = k := by omega
      have wk := Ve ((k : Int) + 1) (by omega)
      clear CA CB k1 k2
      go_upto_region 6 with fail
      by_cases e1 : (tx, ux) = (ty, uy)
      · have NX : Hid (L1.take (k + 1) = L2.take (k + 1)) := Vd (by rw [T1.out, T2.out, ht.out, e1])
        injection e1 with a1 a2
        subst a1 a2
        refine qP 8 (by kernel_rfl) (by kernel_rfl) ?_
        simp only [Vg, Vh, Vi, Vj]
        repeat (first | go_big_quiet_step (fail) | quiet_step (fail))
        refine wpQuiet_nil ?_
        intro _ hw'
        obtain ⟨nq, hw''⟩ := hw'
        subst hw''
        have B5 := Vd (BD.out nq)
        clear z0 z1 y0 y1 BD
        generalize wr.drewN nq = V at *
        go_wp2_with fail
        go_roundw
        case rel => exact ⟨k + 1, by omega, by go_num, NX, B5⟩
        case measure => simp [intOf]; omega
      · have NE := Vd (DF.out e1)
        refine qP 8 (by kernel_rfl) (by kernel_rfl) ?_
        simp only [Vg, Vh, Vi, Vj]
        repeat (first | go_big_quiet_step (fail) | quiet_step (fail))
        refine wpQuiet_nil ?_
        intro _ hw'
        obtain ⟨nq, hw''⟩ := hw'
        subst hw''
        have B5 := Vd (BD.out nq)
        clear z0 z1 y0 y1 BD
        generalize wr.drewN nq = V at *
        have CN := Vd (pair_ne e1)
        clear e1 DF T1 T2
        go_wp2_with fail
        all_goals first
        | (go_ret; exact ⟨NO.out _ rfl NE.out, B5.out⟩)
        | (exfalso
           have q := CN.out
           simp_all)
    · have e : k = N := by omega
      subst e
      have q5 : ¬ (k : Int) < (k : Int) := by omega
      have EQ : Hid (L1 = L2) := Vd (by
        have := ht.out
        rw [List.take_of_length_le (by rw [<- HN.out]; exact Vf), List.take_of_length_le (by rw [<- HM.out]; exact Vf)] at this
        exact this)
      clear ht
      go_wp2_with fail
      go_ret
      exact ⟨YES.out _ rfl EQ.out, hb.out⟩
theorem cls_one (L : List (ByteArray × Int)) : ∀ u ∈ cls L, u.oneCell' = true := fun u hu => by
 obtain ⟨x, _, hx⟩ := List.mem_flatMap.1 hu
 simp [clV] at hx
 rcases hx with rfl | rfl <;> rfl
theorem Jq {w : World} {base n c : Nat} {T : TypeId} {A : Option Addr} {xs : List Value} (h : w.ownsRow base T 2 (.slice A n c) n xs) : A = none -> c = 0 := fun e => by
 rcases h.2 with ⟨z, _⟩ | ⟨g, cap, cur, z, _⟩
 ·injection z
 ·rw [e] at z; injection z with z; cases z
theorem own2_fm {w : World} {base n : Nat} {T : TypeId} {v : Value} {xs : List Value} (h : w.ownsRow base T 2 v n xs) : ∃ A c, v = .slice A n c := by
 rcases h.2 with ⟨z, n0⟩ | ⟨g, cap, cur, z, _⟩
 ·exact ⟨none, 0, by rw [z, n0]⟩
 ·exact ⟨_, _, z⟩
theorem Jr {w : World} {LO n c B m : Nat} {A A2 : Option Addr} {c2 : Nat} {xs : List Value} {L : List (ByteArray × Int)} (o : w.ownsRow LO 109 2 (.slice A n c) n xs) (hm : m = L.length) (S : Sees w B A2 (cls L)) (hA : A2 = none -> c2 = 0) (cap : m <= c2) (hLO : LO <= w.heap.size) (len : n + m <= 4000000000000) :
  ∃ A' c' w3, (Builtin.append_ #[106, 106] 106 #[.slice A n c, .slice A2 m c2]).run Tryz.prog w = .ok (.slice A' (n + m) c') w3 /\
   w3.ownsRow LO 109 2 (.slice A' (n + m) c') (n + m) (xs ++ cls L) /\ w.grownBy w3 (Value.slice A n c).ownBlock := by
 obtain ⟨i0, hi0, hz0, hz1, hz2⟩ := info_parts infoC
 cases A2 with
 | none =>
  have c0 : c2 = 0 := hA rfl
  have m0 : m = 0 := by omega
  subst c0
  subst m0
  have l0 : L = [] := List.eq_nil_of_length_eq_zero hm.symm
  subst l0
  refine ⟨A, c, w, ?_, by simpa [cls] using o, ⟨rfl, rfl, rfl, Vf, fun _ _ _ => rfl⟩⟩
  exact run_append_owned_none (P := Tryz.prog) (w := w) LO 106 106 109 i0 2 Tryz.underlying106 hi0 _ _ _ o
 | some ad =>
  have hn : ∀ j u, (cls L)[j]? = some u -> w.cell? (ad.add j) = some u := fun j u hj => by
   obtain ⟨a', e, _, k⟩ := S (fun z => by rw [z] at hj; simp at hj)
   cases e
   exact k j u hj
  obtain ⟨v', w3, r1, r2, r3, r4⟩ := run_append_own (P := Tryz.prog) w LO 106 106 109 i0 (.agg #[.string ⟨#[]⟩, .int .i64 0]) 2 24 Tryz.underlying106 hi0 hz0 hz1 hz2 rfl (by decide) _ n xs o ad m c2 (cls L) (by rw [Qe, hm]) hn (cls_one L) (by unfold maxLen; omega) (by omega) hLO
  obtain ⟨A', c', e⟩ := own2_fm r2
  subst e
  exact ⟨A', c', w3, r1, r2, r3⟩
theorem Za (s : ByteArray) (h : s.size <= 900000000000) : (zu s).length <= 900000000000 := Nat.le_trans (jv s) h
set_option maxHeartbeats 16000000 in
set_option maxRecDepth 100000 in
theorem Ky (a b : ByteArray) (h : a.size + b.size <= 900000000000) (w : World) : Calls Tryz.prog 70 #[.string a, .string b] w fun e w' => e = .returned (.bool (qK a b)) /\ Below w.heap.size w w' := by
 have S1 := Vd (kM (a ++ b) (by rw [ByteArray.size_append]; exact h))
 have S2 := Vd (kM a (by omega))
 have S3 := Vd (kM b (by omega))
 have L1 := Za (a ++ b) (by rw [ByteArray.size_append]; exact h)
 have L2 := Za a (by omega)
 have L3 := Za b (by omega)
 have LMK : (zu a).length + (zu b).length <= 1000000000000 := by have := jv a; have := jv b; omega
 have JB : Hid (qK a b = !decide (zu (a ++ b) = zu a ++ zu b)) := Vd (by unfold qK; simp)
 generalize qK a b = r at *
 have nov : (9223372036854775807 < a.size + b.size) = False := eq_false (by omega)
 generalize zu (a ++ b) = L at *
 generalize zu a = M at *
 generalize zu b = K at *
 have SM := Vd (fun A1 A2 c1 c2 (w : World) (S1 : Sees w w.heap.size A1 (cls L)) (S2 : Sees w w.heap.size A2 (cls (M ++ K))) => Kx A1 A2 c1 c2 L (M ++ K) (by omega) (by rw [List.length_append]; omega) w S1 S2)
 obtain ⟨D, hD⟩ : ∃ D, D = decide (L = M ++ K) := ⟨_, rfl⟩
 rw [<- hD] at JB SM
 obtain ⟨n, hn⟩ : ∃ n, n = L.length := ⟨_, rfl⟩
 obtain ⟨m, hm⟩ : ∃ m, m = M.length := ⟨_, rfl⟩
 obtain ⟨p, hp⟩ : ∃ p, p = K.length := ⟨_, rfl⟩
 have LL : (M ++ K).length = m + p := by rw [List.length_append, hm, hp]
 rw [<- hn] at L1 S1 SM
 rw [<- hm] at L2 S2
 rw [<- hp] at L3 S3
 rw [LL] at SM
 have HM := Vd hm
 have HP := Vd hp
 have B1 := Vd L1
 have B2 := Vd L2
 have B3 := Vd L3
 clear h hD hn hm hp LL L1 L2 L3 LMK
 go_enter Tryz.func70, Tryz.ntmps70
 go_wp2_with fail
 refine (S1.out _).mono ?_; rintro e w1 ⟨v1, rfl, o1, b1⟩
 obtain ⟨A1, c1, rfl, n1, s1⟩ := j7 o1
 have W1 := Vd b1
 have Q1 := Vd s1
 clear o1 b1 s1 n1 nov
 go_wp2_with fail
 refine (S2.out _).mono ?_; rintro e w2 ⟨v2, rfl, o2, b2⟩
 obtain ⟨A2, c2, rfl, n2, s2⟩ := j7 o2
 have Z2 := Vd (Jq o2)
 have N2 := Vd n2
 have W2 := Vd (zl W1.out W1.out.size b2)
 have Q1 := Vd ((Q1.out.below b2 Vf).more b2.size)
 have Q2 := Vd s2
 clear o2 b2 s2 W1 n2
 go_wp2_with fail
 refine (S3.out _).mono ?_; rintro e w3 ⟨v3, rfl, o3, b3⟩
 obtain ⟨A3, c3, rfl, n3, s3⟩ := j7 o3
 have Z3 := Vd (Jq o3)
 have N3 := Vd n3
 have W3 := Vd (zl W2.out W2.out.size b3)
 have Q1 := Vd ((Q1.out.below b3 Vf).more b3.size)
 have Q2 := Vd ((Q2.out.below b3 Vf).more b3.size)
 have Q3 := Vd s3
 clear o3 b3 s3 W2 n3
 obtain ⟨A4, c4, w4, R4, o4, g4⟩ := Jr (World.ownsRow_nil w3 w3.heap.size 109 2) HM.out Q2.out Z2.out N2.out Vf (by have := B2.out; omega)
 have b4 : Below w3.heap.size w3 w4 := (Below.refl _ _).grown g4 Vf (fun k e => by cases e)
 obtain ⟨A5, c5, w5, R5, o5, g5⟩ := Jr o4 HP.out (Q3.out.below b4 Vf) Z3.out N3.out b4.size (by have := B2.out; have := B3.out; omega)
 have b5 : Below w3.heap.size w3 w5 := b4.grown g5 b4.size (fun k e => (o4.lt k e).1)
 rw [Nat.zero_add] at R4 R5 o5
 have e5 : [] ++ cls M ++ cls K = cls (M ++ K) := by rw [vt]; rfl
 rw [e5] at o5
 obtain ⟨_, _, z5, _, s5⟩ := j7 o5
 injection z5 with z5 _ z6
 subst z5
 have SM := Vd (SM.out A1 A5 c1 c5 w5 ((Q1.out.below b5 Vf).more b5.size) s5)
 have W5 := Vd (W3.out.trans (b5.mono W3.out.size))
 clear o4 g4 b4 o5 g5 b5 s5 e5 S1 S2 S3 z6
 go_wp2_with (first | (at_builtin; refine jr rfl (.tmp 18) (.tmp 19) 106 106 rfl _ _ _ _ rfl rfl R4 ?_) | (at_builtin; refine jr rfl (.tmp 21) (.tmp 22) 106 106 rfl _ _ _ _ rfl rfl R5 ?_) | fail)
 refine SM.out.mono ?_; rintro e w6 ⟨rfl, b6⟩
 have W6 := Vd (W5.out.trans (b6.mono W5.out.size))
 clear b6 SM
 go_wp2_with fail
 go_ret
 exact ⟨zv (by rw [JB.out]), W6.out⟩
end
end
end Go.Proofs.YtifoijbpbigaaaaGreatDoor
