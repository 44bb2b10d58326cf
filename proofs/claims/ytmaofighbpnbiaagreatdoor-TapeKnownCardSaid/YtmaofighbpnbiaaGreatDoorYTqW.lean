/- Tapes joined: Join, walked. -/
import Derived.Test.YtmaofighbpnbiaaGreatDoorYTqI
import Derived.Test.YtmaofighbpnbiaaGreatDoorYTrS
import Derived.Test.YtmaofighbpnbiaaGreatDoorYTpS
namespace Go.Proofs.YtmaofighbpnbiaaGreatDoor
open Go Go.RowKit Go.Sort
set_option linter.unusedVariables false
set_option linter.unusedSimpArgs false
section
def JoinR (W : World) (T : List (List Frm)) (e : Ending) (w' : World) : Prop := ∃ v S, e = .returned (.tuple #[v, .int .i64 (joinT T).2]) ∧ Below W.heap.size W w' ∧ SegS W.heap.size w' v S ∧ frms (segF S) = (joinT T).1 ∧ (segF S).length ≤ 16384
theorem joinR_no {W w' : World} {T : List (List Frm)} {k : Int} (e : joinT T = ([], k)) (hb : Below W.heap.size W w') : JoinR W T (.returned (.tuple #[.slice none 0 0, .int .i64 k])) w' := ⟨_, [], by rw [e], hb, SegS.nil _ _, by rw [e]; rfl, Nat.zero_le _⟩
theorem lastAt_frms {L : List FA} (h : 0 < L.length) : lastAt (frms L) = (L[L.length - 1]'(by omega)).at_ := by
 have hl : 0 < (frms L).length := by rw [frms_len]; exact h
 have e := lastAt_get (frms L) hl
 rw [e]
 have k : (frms L).length - 1 = L.length - 1 := by rw [frms_len]
 have g := frms_get L (L.length - 1) (by omega)
 simp only [k, g]
theorem frms_app (a b : List FA) : frms (a ++ b) = frms a ++ frms b := by unfold frms; rw [List.map_append]
theorem frms_nil_iff (L : List FA) : frms L = [] ↔ L.length = 0 := by
 constructor
 ·intro z; rw [← frms_len, z]; rfl
 ·intro z; rw [List.eq_nil_of_length_eq_zero z]; rfl
theorem longT_stepT {t : List Frm} {ts : List (List Frm)} {n : Nat} : longT (t :: ts) n = (manyB t || decide (16384 < n + t.length) || longT ts (n + t.length)) := rfl
theorem tpsF_drop (T : List TA) (k : Nat) (hk : k < T.length) : tpsF (T.drop k) = frms (T[k]).L :: tpsF (T.drop (k + 1)) := by unfold tpsF; rw [List.drop_eq_getElem_cons hk]; rfl
set_option maxHeartbeats 16000000 in
set_option maxRecDepth 100000 in
theorem t_Join (A : Option Addr) (c : Nat) (T : List TA) (B : Nat) (W : World) (D : TpsD W B A c T) (hB : B ≤ W.heap.size) :
  Calls Tryz.prog 34 #[.slice A T.length c] W (JoinR W (tpsF T)) := by
 have HD := Lib.hid D
 have HBB := Lib.hid hB
 obtain ⟨n, hn⟩ : ∃ n, n = T.length := ⟨_, rfl⟩
 have HN := Lib.hid hn
 have nl : n ≤ 140737488355328 := by have := D.sz; omega
 rw [← hn]
 clear D hB hn
 go_enter Tryz.func34, Tryz.ntmps34
 go_wp2_with fail
 go_loopw [4, 13] (fun s4 s13 wr => ∃ (k m : Nat), k ≤ n ∧ m ≤ 16384 ∧ s4 = .int .i64 (m : Int) ∧ s13 = .int .i64 (k : Int) ∧ Hid (longT (tpsF (T.drop k)) m = longT (tpsF T) 0) ∧ Hid (Below W.heap.size W wr)) (fun _ s13 _ => n - (intOf s13).toNat)
 case atStart => exact ⟨0, 0, Nat.zero_le _, Nat.zero_le _, rfl, rfl, Lib.hid (by rw [List.drop_zero]), Lib.hid (Below.refl _ _)⟩
 case round =>
  obtain ⟨k, m, hk, hm, rfl, rfl, hl, hw⟩ := hrel
  by_cases lt : k < n
  ·have kl : k < T.length := by rw [← HN.out]; exact lt
   have DD := HD.out.below hw.out HBB.out
   obtain ⟨ad, rfl, lb, z1⟩ := DD.at k kl
   have FT := DD.ok _ (List.getElem_mem kl)
   have LS := hl.out
   rw [tpsF_drop T k kl, longT_stepT, frms_len] at LS
   generalize T[k] = x at *
   obtain ⟨xA, xc, xL⟩ := x
   change wr.cell? (ad.add k) = some (.slice xA xL.length xc) at z1
   dsimp only at FT LS
   have CM := Lib.hid (t_many xA xc xL B wr FT (Nat.le_trans HBB.out hw.out.size))
   have xs : xL.length ≤ 140737488355328 := by have := FT.sz; omega
   obtain ⟨mb, hmb⟩ : ∃ mb, mb = manyB (frms xL) := ⟨_, rfl⟩
   rw [← hmb] at CM LS
   obtain ⟨xn, hxn⟩ : ∃ xn, xn = xL.length := ⟨_, rfl⟩
   rw [← hxn] at CM LS z1 xs
   have q0 : (0 : Int) ≤ (k : Int) := by omega
   have q5 : (k : Int) < (n : Int) := by omega
   have tn : (k : Int).toNat = k := by omega
   have wk : IntKind.i64.wrap ((k : Int) + 1) = (k : Int) + 1 := IntWalk.i64_in _ (by omega)
   have wm : IntKind.i64.wrap ((m : Int) + (xn : Int)) = (m : Int) + (xn : Int) := IntWalk.i64_in _ (by omega)
   have HLS := Lib.hid LS
   clear DD FT lb hmb hxn hl LS
   cases mb with
   | true =>
    have EN := Lib.hid (fun (w' : World) (hb : Below W.heap.size W w') => joinR_no (W := W) (w' := w') (T := tpsF T) (show joinT (tpsF T) = ([], 3) by unfold joinT; rw [if_pos (by rw [← HLS.out]; rfl)]) hb)
    go_wp2_with fail
    refine CM.out.mono ?_; rintro e w1 ⟨rfl, hb1⟩
    have B1 := Lib.hid (hw.out.trans (hb1.mono hw.out.size))
    clear CM hb1
    go_wp2_with fail
    go_ret2
    exact EN.out _ B1.out
   | false =>
    by_cases c0 : 16384 < m + xn
    ·have c1 : (16384 : Int) < (m : Int) + (xn : Int) := by omega
     have EN := Lib.hid (fun (w' : World) (hb : Below W.heap.size W w') => joinR_no (W := W) (w' := w') (T := tpsF T) (show joinT (tpsF T) = ([], 3) by unfold joinT; rw [if_pos (by rw [← HLS.out, decide_eq_true c0]; rfl)]) hb)
     go_wp2_with fail
     refine CM.out.mono ?_; rintro e w1 ⟨rfl, hb1⟩
     have B1 := Lib.hid (hw.out.trans (hb1.mono hw.out.size))
     clear CM hb1
     go_wp2_with fail
     go_ret2
     exact EN.out _ B1.out
    ·have c1 : ¬ (16384 : Int) < (m : Int) + (xn : Int) := by omega
     have NX := Lib.hid (show longT (tpsF (T.drop (k + 1))) (m + xn) = longT (tpsF T) 0 by rw [← HLS.out, decide_eq_false c0]; rfl)
     go_wp2_with fail
     refine CM.out.mono ?_; rintro e w1 ⟨rfl, hb1⟩
     have B1 := Lib.hid (hw.out.trans (hb1.mono hw.out.size))
     clear CM hb1
     go_wp2_with fail
     go_roundw
     case rel => exact ⟨k + 1, m + xn, by omega, by omega, by go_num, by go_num, NX, B1⟩
     case measure => simp [intOf]; omega
  ·have e : k = n := by omega
   subst e
   have q5 : ¬ (k : Int) < (k : Int) := by omega
   have LF : Hid (longT (tpsF T) 0 = false) := Lib.hid (by
    rw [← hl.out, HN.out, List.drop_length]
    rfl)
   have HW := Lib.hid hw.out
   clear hl hw hm
   go_wp2_with fail
   go_loopw [7, 8, 30] (fun s7 s8 s30 wr => ∃ (j m : Nat) (base : Int) (A' : Option Addr) (c' : Nat) (S : List Seg), j ≤ k ∧ m ≤ 16384 ∧ (0 ≤ base ∧ base ≤ 1099511627776) ∧ s7 = .slice A' m c' ∧ s8 = .int .i64 base ∧ s30 = .int .i64 (j : Int) ∧ Hid (m = (segF S).length) ∧ Hid (base = lastAt (frms (segF S))) ∧ Hid (joinF (tpsF (T.drop j)) (frms (segF S)) = joinF (tpsF T) []) ∧ Hid (longT (tpsF (T.drop j)) m = false) ∧ Hid (SegS W.heap.size wr (.slice A' m c') S) ∧ Hid (Below W.heap.size W wr)) (fun _ _ s30 _ => k - (intOf s30).toNat)
   case atStart => exact ⟨0, 0, 0, none, 0, [], Nat.zero_le _, Nat.zero_le _, ⟨by decide, by decide⟩, rfl, rfl, rfl, Lib.hid rfl, Lib.hid rfl, Lib.hid (by rw [List.drop_zero]; rfl), Lib.hid (by rw [List.drop_zero]; exact LF.out), Lib.hid (SegS.nil _ _), HW⟩
   case round =>
    obtain ⟨j, m, base, A', c', S, hj, hm, ⟨b0, b1⟩, rfl, rfl, rfl, hms, hbs, hjn, hlg, hs, hq⟩ := hrel
    clear HW
    by_cases lt : j < k
    ·have kl : j < T.length := by rw [← HN.out]; exact lt
     have DD := HD.out.below hq.out HBB.out
     obtain ⟨ad, rfl, lb, z1⟩ := DD.at j kl
     have FT := DD.ok _ (List.getElem_mem kl)
     have JS := hjn.out
     have LS := hlg.out
     rw [tpsF_drop T j kl] at JS LS
     obtain ⟨p1, p2, p3⟩ := longT_parts LS
     rw [frms_len] at p2 p3
     generalize T[j] = x at *
     obtain ⟨xA, xc, xL⟩ := x
     change wr.cell? (ad.add j) = some (.slice xA xL.length xc) at z1
     dsimp only at FT JS p1 p2 p3
     have CT := Lib.hid (t_timed xA xc xL B wr FT (Nat.le_trans HBB.out hq.out.size))
     obtain ⟨tb, htb⟩ : ∃ tb, tb = timedB (frms xL) := ⟨_, rfl⟩
     rw [← htb] at CT
     have HTB := Lib.hid htb
     have q0 : (0 : Int) ≤ (j : Int) := by omega
     have q5 : (j : Int) < (k : Int) := by omega
     have tn : (j : Int).toNat = j := by omega
     have wk : IntKind.i64.wrap ((j : Int) + 1) = (j : Int) + 1 := IntWalk.i64_in _ (by omega)
     have HJS := Lib.hid JS
     have HP := Lib.hid (And.intro p1 p3)
     have HFT := Lib.hid FT
     obtain ⟨xn, hxn⟩ : ∃ xn, xn = xL.length := ⟨_, rfl⟩
     have HXN := Lib.hid hxn
     rw [← hxn] at CT z1 p2
     clear DD FT lb htb hjn hlg JS LS p1 p3 hxn
     have TL : Hid (tb = true → ∀ t : Int, t = lastAt (frms xL) → xn ≠ 0 → 0 ≤ t ∧ t ≤ 1099511627776) := Lib.hid (fun ht0 t ht nz => by
      rw [ht]
      exact timed_last (frms xL) 0 (HTB.out.symm.trans ht0) (fun z => nz (by rw [HXN.out]; exact (frms_nil_iff xL).1 z)))
     go_upto_region 14 with fail
     go_cut [53] from 34 to 53 (fun s53 wx => ∃ bd : Bool, s53 = .bool bd ∧ Hid (bd = decide (tb = false ∨ (xn ≠ 0 ∧ 1099511627776 - base < lastAt (frms xL)))) ∧ Hid (Below wr.heap.size wr wx))
     case first =>
      cases tb with
      | false =>
       go_wp2_with fail
       refine CT.out.mono ?_; rintro e w1 ⟨rfl, hb1⟩
       clear CT
       go_wp2_with fail
       go_meet
       exact ⟨true, rfl, Lib.hid (by simp), Lib.hid hb1⟩
      | true =>
       by_cases z : xn = 0
       ·subst z
        go_wp2_with fail
        refine CT.out.mono ?_; rintro e w1 ⟨rfl, hb1⟩
        clear CT
        go_wp2_with fail
        go_meet
        exact ⟨false, rfl, Lib.hid (by simp), Lib.hid hb1⟩
       ·have zp : (0 : Int) < (xn : Int) := by omega
        have xl : xn - 1 < xL.length := by rw [← HXN.out]; omega
        have YC := Lib.hid (fun (w1 : World) (hb1 : Below wr.heap.size wr w1) => (HFT.out.below hb1 (Nat.le_trans HBB.out hq.out.size)).at (xn - 1) xl)
        have lf : lastAt (frms xL) = (xL[xn - 1]).at_ := by
         rw [lastAt_frms (by omega)]
         simp only [HXN.out]
        rw [← lf] at YC
        have HLF := Lib.hid (TL.out rfl _ rfl z)
        generalize lastAt (frms xL) = la at *
        have lab := HLF.out
        have wn : IntKind.i64.wrap ((xn : Int) - 1) = (xn : Int) - 1 := IntWalk.i64_in _ (by omega)
        have r0 : (0 : Int) ≤ (xn : Int) - 1 := by omega
        have r5 : (xn : Int) - 1 < (xn : Int) := by omega
        have rn : ((xn : Int) - 1).toNat = xn - 1 := by omega
        have wb : IntKind.i64.wrap (1099511627776 - base) = 1099511627776 - base := IntWalk.i64_in _ (by omega)
        clear lf
        go_wp2_with fail
        refine CT.out.mono ?_; rintro e w1 ⟨rfl, hb1⟩
        obtain ⟨ae, rfl, _, y1, y2⟩ := YC.out w1 hb1
        clear CT YC y2
        go_wp2_with fail
        go_meet
        exact ⟨_, rfl, Lib.hid (by simp [z]), Lib.hid hb1⟩
     case rest =>
       obtain ⟨bd, rfl, hbd, hcb⟩ := hcut
       obtain ⟨w1, hw1⟩ : ∃ w1, w1 = wc := ⟨_, rfl⟩
       rw [← hw1] at hcb ⊢
       clear hw1 CT
       have B1 := Lib.hid (hq.out.trans (hcb.out.mono hq.out.size))
       have S1 := Lib.hid (hs.out.below hcb.out)
       have FT1 := Lib.hid (HFT.out.below hcb.out (Nat.le_trans HBB.out hq.out.size))
       clear hs hq hcb
       cases bd with
       | true =>
        have EN := Lib.hid (fun (w' : World) (hb : Below W.heap.size W w') => joinR_no (W := W) (w' := w') (T := tpsF T) (show joinT (tpsF T) = ([], 301) by
         have d := of_decide_eq_true hbd.out.symm
         unfold joinT
         rw [if_neg (by rw [LF.out]; decide), ← HJS.out, joinF, if_pos]
         rcases d with d | d
         ·exact Or.inl (HTB.out.symm.trans d)
         ·exact Or.inr ⟨fun z => d.1 (by rw [HXN.out]; exact (frms_nil_iff xL).1 z), by rw [← hbs.out]; exact d.2⟩) hb)
        go_wp2_with fail
        go_ret2
        exact EN.out _ B1.out
       | false =>
        have tbt : tb = true := by
         have d := of_decide_eq_false hbd.out.symm
         cases tb with
         | true => rfl
         | false => exact absurd (Or.inl rfl) d
        subst tbt
        have JN := Lib.hid (show joinF (tpsF (T.drop (j + 1))) (frms (segF S) ++ shiftL base (frms xL)) = joinF (tpsF T) [] by
         have d := of_decide_eq_false hbd.out.symm
         have e := HJS.out
         rw [joinF, if_neg, ← hbs.out] at e
         ·exact e
         ·rintro (z | ⟨z1, z2⟩)
          ·rw [← HTB.out] at z; cases z
          ·exact d (Or.inr ⟨fun z => z1 ((frms_nil_iff xL).2 (by rw [← HXN.out]; exact z)), by rw [hbs.out]; exact z2⟩))
        have LB : Hid (xn ≠ 0 → 0 ≤ lastAt (frms xL) + base ∧ lastAt (frms xL) + base ≤ 1099511627776) := Lib.hid (fun z => by
         have d := of_decide_eq_false hbd.out.symm
         have t := TL.out rfl _ rfl z
         have : ¬ 1099511627776 - base < lastAt (frms xL) := fun q => d (Or.inr ⟨z, q⟩)
         omega)
        have MN := HP.out.1
        rw [manyB, Bool.or_eq_false_iff] at MN
        have ML := of_decide_eq_false MN.2
        rw [frms_len] at ML
        have OKL : ∀ x ∈ xL, x.b.bs.length ≤ 1048576 ∧ 0 ≤ x.at_ ∧ x.at_ ≤ 1099511627776 := fun x m => by
         obtain ⟨i, hi, rfl⟩ := List.mem_iff_getElem.1 m
         have hi2 : i < (frms xL).length := by rw [frms_len]; exact hi
         have a := long_each MN.1 _ (List.getElem_mem hi2)
         have b := timed_mono _ 0 HTB.out.symm i i hi2 (Nat.le_refl _)
         rw [frms_get xL i hi] at a b
         exact ⟨a, b.2⟩
        have so := S1.out.own
        have e9 := own_len so rfl
        injection e9 with _ e10 _
        have CP := Lib.hid (t_copied W.heap.size (.slice A' m c') (segF S) xA xc xL B base w1 so B1.out.size FT1.out HBB.out (by omega) (fun x m => (OKL x m).1) (fun x m => (OKL x m).2) ⟨b0, b1⟩ (by omega))
        rw [← HXN.out] at CP
        have FB : Hid ((flatB xL).length ≤ 140737488355328) := Lib.hid (by have := flatB_le (fun x m => (OKL x m).1); omega)
        have OKH := Lib.hid OKL
        clear MN ML OKL so e10
        go_wp2_with fail
        refine CP.out.mono ?_; rintro e w2 ⟨v2, g2, rfl, C2⟩
        have S2 := S1.out.add B1.out.size C2 FB.out (fun x m => ⟨(HFT.out.ok x m).b.rng, by have := OKH.out x m; omega, by have := OKH.out x m; omega⟩)
        obtain ⟨A2, c2, e2⟩ := own_slcF S2.own
        subst e2
        have fS : frms (segF (S ++ [⟨g2, base, xL⟩])) = frms (segF S) ++ shiftL base (frms xL) := by rw [segF_app, frms_app, cpF_frms]
        have lS : (segF (S ++ [⟨g2, base, xL⟩])).length = m + xn := by rw [segF_app, List.length_append, cpF_len, ← hms.out, ← HXN.out]
        rw [lS] at S2 ⊢
        have B2 := Lib.hid (B1.out.trans (C2.bel.mono (Nat.le_refl _)))
        have HS2 := Lib.hid S2
        have HFS := Lib.hid fS
        have HLS := Lib.hid lS
        clear CP C2 S2 fS lS S1
        have HLN := Lib.hid HP.out.2
        have NB := Lib.hid (fun (bn : Int) (m2 : Nat) (hm2 : m2 = m + xn) (h1 : 0 ≤ bn ∧ bn ≤ 1099511627776) (h2 : bn = lastAt (frms (segF (S ++ [⟨g2, base, xL⟩])))) (h3 : SegS W.heap.size w2 (.slice A2 m2 c2) (S ++ [⟨g2, base, xL⟩])) => show ∃ (j' m : Nat) (bs : Int) (A' : Option Addr) (c' : Nat) (S : List Seg), j' ≤ k ∧ m ≤ 16384 ∧ (0 ≤ bs ∧ bs ≤ 1099511627776) ∧ Value.slice A2 m2 c2 = .slice A' m c' ∧ Value.int .i64 bn = .int .i64 bs ∧ Value.int .i64 ((j : Int) + 1) = .int .i64 (j' : Int) ∧ Hid (m = (segF S).length) ∧ Hid (bs = lastAt (frms (segF S))) ∧ Hid (joinF (tpsF (T.drop j')) (frms (segF S)) = joinF (tpsF T) []) ∧ Hid (longT (tpsF (T.drop j')) m = false) ∧ Hid (SegS W.heap.size w2 (.slice A' m c') S) ∧ Hid (Below W.heap.size W w2) from ⟨j + 1, m2, bn, A2, c2, S ++ [⟨g2, base, xL⟩], by omega, by omega, h1, rfl, rfl, by go_num, Lib.hid (by rw [hm2]; exact HLS.out.symm), Lib.hid h2, Lib.hid (by rw [HFS.out]; exact JN.out), Lib.hid (by rw [hm2, HXN.out]; exact HLN.out), Lib.hid h3, B2⟩)
        by_cases z : m + xn = 0
        ·obtain ⟨rfl, rfl⟩ : m = 0 ∧ xn = 0 := by omega
         have LN : base = lastAt (frms (segF (S ++ [⟨g2, base, xL⟩]))) := by
          have z1 := (frms_nil_iff _).2 HLS.out
          rw [z1, hbs.out, (frms_nil_iff _).2 hms.out.symm]
         have FIN := Lib.hid (NB.out base 0 rfl ⟨b0, b1⟩ LN HS2.out)
         clear LN NB
         go_wp2_with fail
         go_roundw
         case rel => exact FIN.out
         case measure => simp [intOf]; omega
        ·obtain ⟨zn, hzn⟩ : ∃ zn, zn = m + xn := ⟨_, rfl⟩
         rw [← hzn] at HS2 HLS ⊢
         have zp : (0 : Int) < (zn : Int) := by omega
         have FS := HS2.out.frs (by rw [HLS.out]; omega)
         have xl : zn - 1 < (segF (S ++ [⟨g2, base, xL⟩])).length := by rw [HLS.out]; omega
         obtain ⟨ae, rfl, _, y1, y2⟩ := FS.2.at (zn - 1) xl
         have lf : lastAt (frms (segF (S ++ [⟨g2, base, xL⟩]))) = ((segF (S ++ [⟨g2, base, xL⟩]))[zn - 1]).at_ := by
          rw [lastAt_frms (by omega)]
          simp only [HLS.out]
         rw [← lf] at y1
         have LR : 0 ≤ lastAt (frms (segF (S ++ [⟨g2, base, xL⟩]))) ∧ lastAt (frms (segF (S ++ [⟨g2, base, xL⟩]))) ≤ 1099511627776 := by
          rw [HFS.out]
          by_cases xz : xn = 0
          ·have : shiftL base (frms xL) = [] := by rw [(frms_nil_iff xL).2 (by rw [← HXN.out]; exact xz)]; rfl
           rw [this, List.append_nil, ← hbs.out]
           exact ⟨b0, b1⟩
          ·have ne : frms xL ≠ [] := fun q => xz (by rw [HXN.out]; exact (frms_nil_iff xL).1 q)
           have ns : shiftL base (frms xL) ≠ [] := fun q => ne (by have := congrArg List.length q; rw [shift_len] at this; exact List.eq_nil_of_length_eq_zero this)
           obtain ⟨f, r, er⟩ := List.exists_cons_of_ne_nil ns
           rw [er, last_app, ← er, last_shift base _ ne]
           exact LB.out xz
         have FIN := Lib.hid (NB.out _ zn hzn LR rfl HS2.out)
         generalize lastAt (frms (segF (S ++ [⟨g2, base, xL⟩]))) = la at *
         have wn : IntKind.i64.wrap ((zn : Int) - 1) = (zn : Int) - 1 := IntWalk.i64_in _ (by omega)
         have r0 : (0 : Int) ≤ (zn : Int) - 1 := by omega
         have r5 : (zn : Int) - 1 < (zn : Int) := by omega
         have rn : ((zn : Int) - 1).toNat = zn - 1 := by omega
         clear lf FS y2 LR NB hzn z
         go_wp2_with fail
         go_roundw
         case rel => exact FIN.out
         case measure => simp [intOf]; omega
    ·have e : j = k := by omega
     subst e
     have q5 : ¬ (j : Int) < (j : Int) := by omega
     have FIN : Hid (JoinR W (tpsF T) (.returned (.tuple #[.slice A' m c', .int .i64 0])) wr) := Lib.hid (by
      have jn := hjn.out
      rw [HN.out, List.drop_length] at jn
      have je : joinT (tpsF T) = (frms (segF S), 0) := by
       unfold joinT
       rw [if_neg (by rw [LF.out]; decide), ← jn]
       rfl
      exact ⟨_, S, by rw [je], hq.out, hs.out, by rw [je], by rw [← hms.out]; exact hm⟩)
     clear hs hq hjn hlg
     go_wp2_with fail
     go_ret2
     exact FIN.out
end
end Go.Proofs.YtmaofighbpnbiaaGreatDoor
