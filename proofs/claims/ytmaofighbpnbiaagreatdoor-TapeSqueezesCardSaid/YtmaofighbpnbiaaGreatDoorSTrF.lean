/- The document's Squeeze, walked. -/
import Derived.Test.YtmaofighbpnbiaaGreatDoorTaEF
import Derived.Test.YtmaofighbpnbiaaGreatDoorTaEP
import Derived.Test.YtmaofighbpnbiaaGreatDoorTaEQ
namespace Go.Proofs.YtmaofighbpnbiaaGreatDoor
open Go Go.RowKit Go.Sort
set_option linter.unusedSimpArgs false
set_option linter.unusedVariables false
section
theorem rmF_fa (M : List RM) : frms (M.map RM.fa) = rmF M := by unfold frms rmF; rw [List.map_map]; rfl
theorem RmS.time {LO : Nat} {w : World} {P Q : List RM} {x : RM} {r c n : Nat} (h : RmS LO w (.slice (some ⟨r, 0, none⟩) n c) (P ++ x :: Q) 0) (t : Int) (ht : -9223372036854775808 <= t /\ t <= 9223372036854775807) :
  RmS LO (w.setCell ⟨r, P.length * 2, none⟩ (.int .i64 t)) (.slice (some ⟨r, 0, none⟩) n c) (P ++ ⟨t, x.g, x.c, x.bs, x.ex⟩ :: Q) 0 := by
 obtain ⟨r', c', e, rl, rs, rne, _⟩ := h.row (by rw [List.length_append, List.length_cons]; omega)
 injection e with e1 e2 e3
 injection e1 with e1
 injection e1 with e1
 subst e1
 have cs : ∀ z ∈ P ++ (⟨t, x.g, x.c, x.bs, x.ex⟩ : RM) :: Q, z = ⟨t, x.g, x.c, x.bs, x.ex⟩ \/ z ∈ P ++ x :: Q := fun z m => by
  rcases List.mem_append.1 m with m | m
  ·exact Or.inr (List.mem_append.2 (Or.inl m))
  ·rcases List.mem_cons.1 m with m | m
   ·exact Or.inl m
   ·exact Or.inr (List.mem_append.2 (Or.inr (List.mem_cons_of_mem _ m)))
 have mx : x ∈ P ++ x :: Q := List.mem_append.2 (Or.inr List.mem_cons_self)
 refine ⟨?_, fun z m => ?_, fun z m => ?_, ?_⟩
 ·have o0 := h.own
  rw [e2] at o0
  have o1 := (o0.stored (P.length * 2) (.int .i64 t)).1
  have el : (P ++ (⟨t, x.g, x.c, x.bs, x.ex⟩ : RM) :: Q).length = (P ++ x :: Q).length := by rw [List.length_append, List.length_append, List.length_cons, List.length_cons]
  have ex : (rmV (P ++ x :: Q) ++ z77 0).set (P.length * 2) (.int .i64 t) = rmV (P ++ ⟨t, x.g, x.c, x.bs, x.ex⟩ :: Q) ++ z77 0 := by
   rw [kF, kF, kG, kG]
   simp only [List.append_assoc]
   rw [List.set_append_right _ _ (by rw [xg]; omega), xg, Nat.sub_self]
   rfl
  rw [el, <- ex, e2]
  exact o1
 ·rcases cs z m with rfl | m
  ·exact (h.one x mx).keep (heap_setCell_other _ _ _ _ (rne x mx))
  ·exact (h.one z m).keep (heap_setCell_other _ _ _ _ (rne z m))
 ·rcases cs z m with rfl | m
  ·exact ⟨(h.rng x mx).1, ht⟩
  ·exact h.rng z m
 ·have d := h.dis
  rw [List.map_append, List.map_cons] at d ⊢
  exact d
def SqD (W : World) (l : List Frm) (most : Int) (e : Ending) (w' : World) : Prop := ∃ A c L', e = .returned (.tuple #[.slice A L'.length c, .int .i64 (qh l most).2]) /\ frms L' = (qh l most).1 /\ FrsD w' w'.heap.size A c L' /\ Below W.heap.size W w'
theorem Jp {W w' : World} {l : List Frm} {most k : Int} (e : qh l most = ([], k)) (hb : Below W.heap.size W w') : SqD W l most (.returned (.tuple #[.slice none 0 0, .int .i64 k])) w' := ⟨none, 0, [], by rw [e]; rfl, by rw [e]; rfl, ⟨fun _ => rfl, Nat.le_refl _, by simp, Sees.nil _ _ _, fun x m => by cases m⟩, hb⟩
set_option maxHeartbeats 16000000 in
set_option maxRecDepth 100000 in
theorem zdk (A : Option Addr) (c : Nat) (L : List FA) (most : Int) (B : Nat) (W : World) (D : FrsD W B A c L) (hB : B <= W.heap.size) (hl : L.length <= 134217728) (hm : -9223372036854775808 <= most /\ most <= 9223372036854775807) :
  Calls Tryz.prog 35 #[.slice A L.length c, .int .i64 most] W (SqD W (frms L) most) := by
 have C1 := zdm (r_Many A c L B W D hB)
 have HD := zdm D
 have HBB := zdm hB
 obtain ⟨l, hll⟩ : ∃ l, l = frms L := ⟨_, rfl⟩
 obtain ⟨n, hn⟩ : ∃ n, n = L.length := ⟨_, rfl⟩
 have HL := zdm hll
 have HN := zdm hn
 rw [<- hll] at C1 ⊢
 rw [<- hn] at C1 hl ⊢
 obtain ⟨mb, hmb⟩ : ∃ mb, mb = qm l := ⟨_, rfl⟩
 rw [<- hmb] at C1
 have HMB := zdm hmb
 clear D hB hll hn hmb
 go_enter Tryz.func35, Tryz.ntmps35
 go_wp2_with fail
 refine C1.out.mono ?_; rintro e w1 ⟨rfl, hb1⟩
 have B1 := zdm hb1
 clear C1 hb1
 cases mb with
 | true =>
  have EN := zdm (Jp (W := W) (l := l) (most := most) (k := 3) (by unfold qh zZ; rw [<- HMB.out]; rfl) B1.out)
  go_wp2_with fail
  go_ret2
  exact EN.out
 | false =>
 have C2 := r_InTime A c L B w1 (HD.out.below B1.out HBB.out) (Nat.le_trans HBB.out B1.out.size)
 rw [<- HN.out, <- HL.out] at C2
 obtain ⟨tb, htb⟩ : ∃ tb, tb = jD l := ⟨_, rfl⟩
 rw [<- htb] at C2
 have C2 := zdm C2
 have HTB := zdm htb
 clear htb
 go_wp2_with fail
 refine C2.out.mono ?_; rintro e w2 ⟨rfl, hb2⟩
 have B2 := zdm (B1.out.trans (hb2.mono B1.out.size))
 clear C2 hb2
 cases tb with
 | false =>
  have EN := zdm (Jp (W := W) (l := l) (most := most) (k := 301) (by unfold qh zZ; rw [<- HMB.out, <- HTB.out]; rfl) B2.out)
  go_wp2_with fail
  go_ret2
  exact EN.out
 | true =>
 have CK : Hid (zZ l = 0) := zdm (by unfold zZ; rw [<- HMB.out, <- HTB.out]; rfl)
 by_cases m1 : most < 0
 case pos =>
  have EN := zdm (Jp (W := W) (l := l) (most := most) (k := 2) (by unfold qh; rw [CK.out, if_neg (by decide), if_pos m1]) B2.out)
  go_wp2_with fail
  go_ret2
  exact EN.out
 obtain ⟨p1, p2, p3⟩ := xa CK.out
 have CP := Kp A c L B w2 (HD.out.below B2.out HBB.out) (Nat.le_trans HBB.out B2.out.size) (by rw [<- HN.out]; exact hl)
 rw [<- HN.out, <- HL.out] at CP
 have CP := zdm CP
 have BND := zdm (fun k => Jm most (by omega) (L.take k) 0 0 (by decide) (by decide) (by decide) (by rw [zak, <- HL.out]; exact Jn l 0 k p3))
 have OKL := zdm (fun k (hk : k < L.length) => by
  have b := xL _ 0 p3 k k (by rw [HL.out, z7]; exact hk) (Nat.le_refl _)
  simp only [HL.out, jV L k hk] at b
  exact b.2)
 have LB : Hid (∀ f ∈ l, f.bs.length <= 1048576) := zdm (kB p1)
 have nl : n <= 16384 := by rw [HL.out, z7] at p2; have := HN.out; omega
 clear p1 p2 p3
 go_wp2_with fail
 refine CP.out.mono ?_; rintro e w3 ⟨v, M0, rfl, S0, F0, X0, B3⟩
 obtain ⟨A1, c1, e1⟩ := S0.slc
 have m0 : M0.length = n := by rw [<- Ko, F0, HL.out, z7, HN.out]
 rw [Nat.add_zero, m0] at e1
 subst e1
 have HS0 := zdm S0
 have HF0 := zdm F0
 have HB3 := zdm (B2.out.trans (B3.mono B2.out.size))
 have LW := zdm (B2.out.size)
 have M0L := zdm m0
 clear CP S0 F0 X0 B3 m0
 go_wp2_with fail
 go_loopw [9, 10, 11] (fun s9 s10 s11 wr => ∃ (k : Nat) (a b : Int) (P Q : List RM), k <= n /\ s9 = .int .i64 a /\ s10 = .int .i64 b /\ s11 = .int .i64 (k : Int) /\ Hid (P.length = k) /\ Hid (k + Q.length = n) /\ Hid (a = atE most 0 0 (L.take k)) /\ Hid (b = wasE 0 (L.take k)) /\ Hid (RmS w2.heap.size wr (.slice A1 n c1) (P ++ Q) 0) /\ Hid (rmF P = frms (sqA most 0 0 (L.take k))) /\ Hid (rmF Q = frms (L.drop k)) /\ Hid (Below W.heap.size W wr)) (fun _ _ s11 _ => n - (intOf s11).toNat)
 case atStart => exact ⟨0, 0, 0, [], M0, Nat.zero_le _, rfl, rfl, rfl, zdm rfl, zdm (by rw [M0L.out, Nat.zero_add]), zdm rfl, zdm rfl, HS0, zdm rfl, zdm (by rw [HF0.out, HL.out, List.drop_zero]), HB3⟩
 case round =>
  obtain ⟨k, a, b, P, Q, hk, rfl, rfl, rfl, hp, hq, ha, hb, hs, hfp, hfq, hw⟩ := hrel
  clear HS0 HB3
  by_cases lt : k < n
  ·have kl : k < L.length := by rw [<- HN.out]; exact lt
   obtain ⟨ad, rfl, lb, z1, z2⟩ := (HD.out.below hw.out HBB.out).at k kl
   obtain ⟨x, Q', rfl⟩ : ∃ x Q', Q = x :: Q' := by
    cases Q with
    | nil => have := hq.out; simp at this; omega
    | cons x Q' => exact ⟨x, Q', rfl⟩
   obtain ⟨r, c', e, rl, rs, rne, rf, rcap⟩ := hs.out.row (by rw [List.length_append, List.length_cons]; omega)
   injection e with e1 e2 e3
   subst e1
   have cl := hs.out.cell
   rw [hp.out] at cl
   obtain ⟨_, cl1, cl2⟩ := cl
   have cl2 := cl2 (k * 2)
   have fq := hfq.out
   rw [List.drop_eq_getElem_cons kl] at fq
   have fq : (⟨x.at_, x.bs⟩ : Frm) :: rmF Q' = FA.frm L[k] :: frms (L.drop (k + 1)) := fq
   injection fq with fq1 fq2
   have fq1 : x.bs = (L[k]).b.bs := congrArg Frm.bs fq1
   obtain ⟨nx1, nx2⟩ := zaj most L k kl
   have BK := BND.out k
   have BK1 := BND.out (k + 1)
   rw [nx1, nx2, <- ha.out, <- hb.out] at BK1
   rw [<- ha.out, <- hb.out] at BK
   have OX := OKL.out k kl
   have tk := kC L k kl
   have NXT := zdm (fun (t : Int) (ht : t = a + min most ((L[k]).at_ - b)) (hr : -9223372036854775808 <= t /\ t <= 9223372036854775807) => show ∃ P2 : List RM, P2.length = k + 1 /\ t = atE most 0 0 (L.take (k + 1)) /\ (L[k]).at_ = wasE 0 (L.take (k + 1)) /\ RmS w2.heap.size (wr.setCell ⟨r, k * 2, none⟩ (.int .i64 t)) (.slice (some ⟨r, 0, none⟩) n c1) (P2 ++ Q') 0 /\ rmF P2 = frms (sqA most 0 0 (L.take (k + 1))) /\ rmF Q' = frms (L.drop (k + 1)) /\ Below W.heap.size W (wr.setCell ⟨r, k * 2, none⟩ (.int .i64 t)) from by
    have T := hs.out.time t hr
    rw [hp.out] at T
    refine ⟨P ++ [⟨t, x.g, x.c, x.bs, x.ex⟩], by rw [List.length_append, hp.out]; rfl, by rw [nx1, ht, ha.out, hb.out], nx2.symm, by rw [List.append_assoc]; exact T, ?_, fq2, hw.out.setCell (p := ⟨r, k * 2, none⟩) (Nat.le_trans LW.out rl) _⟩
    rw [vu, hfp.out, tk, Jl]
    unfold frms
    rw [List.map_append, <- ha.out, <- hb.out]
    congr 1
    show [(⟨t, x.bs⟩ : Frm)] = [⟨a + min most ((L[k]).at_ - b), (L[k]).b.bs⟩]
    rw [ht, fq1])
   have HQL := zdm (show k + 1 + Q'.length = n by have := hq.out; rw [List.length_cons] at this; omega)
   generalize (L[k]).at_ = xt at *
   have q0 : (0 : Int) <= (k : Int) := by omega
   have q5 : (k : Int) < (n : Int) := by omega
   have tn : (k : Int).toNat = k := by omega
   have wk : IntKind.i64.wrap ((k : Int) + 1) = (k : Int) + 1 := IntWalk.i64_in _ (by omega)
   have wx : IntKind.i64.wrap (xt - b) = xt - b := IntWalk.i64_in _ (by omega)
   have wa : IntKind.i64.wrap (a + min most (xt - b)) = a + min most (xt - b) := IntWalk.i64_in _ (by omega)
   have NXT := zdm (NXT.out _ rfl (by omega))
   clear lb rl rs rne rf rcap e2 e3 fq1 fq2 nx1 nx2 BK BK1 OX tk hs hfp hfq hw z2 hp hq
   go_wp2_with fail
   go_roundw
   case rel =>
    obtain ⟨P2, g1, g2, g3, g4, g5, g6, g7⟩ := NXT.out
    exact ⟨k + 1, _, _, P2, Q', by omega, rfl, rfl, by go_num, zdm g1, HQL, zdm g2, zdm g3, zdm g4, zdm g5, zdm g6, zdm g7⟩
   case measure => simp [intOf]; omega
  ·have e : k = n := by omega
   subst e
   have q5 : ¬ (k : Int) < (k : Int) := by omega
   have FIN : Hid (SqD W l most (.returned (.tuple #[.slice A1 k c1, .int .i64 0])) wr) := zdm (by
    have q0 : Q = [] := List.eq_nil_of_length_eq_zero (by have := hq.out; omega)
    have st := hs.out
    rw [q0, List.append_nil] at st
    have fp := hfp.out
    rw [HN.out, List.take_length, Zy, <- HL.out] at fp
    have se : qh l most = (sqF most 0 0 l, 0) := by unfold qh; rw [CK.out, if_neg (by decide), if_neg (by omega)]
    refine ⟨A1, c1, P.map RM.fa, by rw [se, List.length_map, hp.out], by rw [se, rmF_fa]; exact fp, st.frs (by rw [hp.out]; omega) (fun x m => ?_), hw.out⟩
    have mm : (⟨x.at_, x.bs⟩ : Frm) ∈ sqF most 0 0 l := by rw [<- fp]; exact List.mem_map_of_mem (f := fun x : RM => (⟨x.at_, x.bs⟩ : Frm)) m
    have := kB (l := sqF most 0 0 l) (by rw [Jk]; exact (xa CK.out).1) _ mm
    have : x.bs.length <= 1048576 := this
    omega)
   clear hs hfp hfq hw hp hq
   go_wp2_with fail
   go_ret2
   exact FIN.out
end
end Go.Proofs.YtmaofighbpnbiaaGreatDoor
