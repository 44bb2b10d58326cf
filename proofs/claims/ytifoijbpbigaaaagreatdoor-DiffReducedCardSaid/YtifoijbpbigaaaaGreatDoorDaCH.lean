/- What lies below tapes (kept of earlier texts: RaW, RaX, RbA, DgJf, DgG, DgP, DgH). -/
import Derived.Test.YtifoijbpbigaaaaGreatDoorDaCG
import Derived.Maps.AppendAt
import Derived.Lib.AppendStr
import Derived.RegionTactic
import Derived.ChangeAlike
import Derived.Deep.DeepCutAuto
import Derived.Deep.RegionWith
set_option linter.unusedVariables false
set_option linter.unusedSimpArgs false
namespace Go.Proofs.YtifoijbpbigaaaaGreatDoor
section
open Go Go.RowKit Go.Sort
section
theorem app_num {w : World} {LO n c : Nat} {A : Option Addr} {xs : List Int} (o : w.ownsRow LO 3 1 (.slice A n c) n (ints xs)) (u : Int) (hLO : LO <= w.heap.size) (len : n <= 1000000000000) :
  ∃ A' c' w3, (Builtin.append_ #[38, 38] 38 #[.slice A n c, .slice (some ⟨w.heap.size, 0, none⟩) 1 1]).run Tryz.prog (w.alloc (.cells #[.int .i64 u] 3)) = .ok (.slice A' (n + 1) c') w3 /\
   w3.ownsRow LO 3 1 (.slice A' (n + 1) c') (n + 1) (ints (xs ++ [u])) /\ Below LO w w3 := by
 obtain ⟨i0, hi0, hz0, hz1, hz2⟩ := info_parts jW
 have bu : Below w.heap.size w (w.alloc (.cells #[.int .i64 u] 3)) := (Below.refl _ w).alloc Xm _
 have o1 := zF o bu
 obtain ⟨v', w3, r1, r2, r3, r4⟩ := run_append_own (P := Tryz.prog) (w.alloc (.cells #[.int .i64 u] 3)) LO 38 38 3 i0 (.int .i64 0) 1 8 Tryz.underlying38 hi0 hz0 hz1 hz2 rfl (by decide) _ n _ o1 ⟨w.heap.size, 0, none⟩ 1 1 [.int .i64 u] rfl (qj w [.int .i64 u] _) (by intro x hx; rw [List.mem_singleton.1 hx]; rfl) (by unfold maxLen; omega) (by omega) (Nat.le_trans hLO bu.size)
 obtain ⟨A', c', e⟩ := qX r2
 subst e
 refine ⟨A', c', w3, r1, by rw [xi]; exact r2, (bu.mono hLO).grown r3 (Nat.le_trans hLO bu.size) (fun k hk => (o1.lt k hk).1)⟩
theorem JE {K L : List Cel} {i : Nat} (hl : K.length = L.length) (hi : i < L.length) (hr : rowR (L.drop i) = true) :
  ((L[i]).wide = 2 /\ ∃ h : i + 1 < L.length, zd i (K.drop i) (L.drop i) = (if K[i]'(by omega) = L[i] /\ K[i + 1]'(by omega) = L[i + 1] then [] else [(i, 2)]) ++ zd (i + 2) (K.drop (i + 2)) (L.drop (i + 2)) /\ rowR (L.drop (i + 2)) = true) \/
  ((L[i]).wide = 1 /\ zd i (K.drop i) (L.drop i) = (if K[i]'(by omega) = L[i] then [] else [(i, 1)]) ++ zd (i + 1) (K.drop (i + 1)) (L.drop (i + 1)) /\ rowR (L.drop (i + 1)) = true) := by
 rw [List.drop_eq_getElem_cons hi] at hr
 rcases Zp hr with ⟨e, b, r, eb, _, hr2⟩ | ⟨e, hr2⟩
 ·have h2 : i + 1 < L.length := by
   have := congrArg List.length eb
   rw [List.length_drop, List.length_cons] at this
   omega
  rw [List.drop_eq_getElem_cons h2] at eb
  injection eb with eb1 eb2
  refine Or.inl ⟨e, h2, ?_, by rw [show i + 2 = i + 1 + 1 from rfl, eb2]; exact hr2⟩
  rw [List.drop_eq_getElem_cons hi, List.drop_eq_getElem_cons h2, List.drop_eq_getElem_cons (show i < K.length by omega), List.drop_eq_getElem_cons (show i + 1 < K.length by omega)]
  exact jT i _ _ _ _ _ _ e
 ·refine Or.inr ⟨e, ?_, hr2⟩
  rw [List.drop_eq_getElem_cons hi, List.drop_eq_getElem_cons (show i < K.length by omega)]
  exact jU i _ _ _ _ (by rw [e]; decide) (by rw [List.length_drop, List.length_drop, hl])
end
end
section
open Go Go.RowKit Go.Sort
section
theorem Z6 (i n : Nat) : chgL [(i, n)] = upL i n := by simp [chgL, upL]
set_option maxHeartbeats 64000000 in
set_option maxRecDepth 100000 in
theorem JF (a b : Scr) (A1 A2 : Option Addr) (c1 c2 : Nat) (hc1 : a.cells.length <= c1) (hc2 : b.cells.length <= c2) (hA1 : A1 = none -> c1 = 0) (hA2 : A2 = none -> c2 = 0) (hl1 : a.cells.length <= 1000000000) (hl2 : b.cells.length <= 1000000000) (ok1 : ∀ x ∈ a.cells, okR x) (ok2 : ∀ x ∈ b.cells, okR x) (w : World) (S1 : Sees w w.heap.size A1 (zc a.cells)) (S2 : Sees w w.heap.size A2 (zc b.cells)) :
  Calls Tryz.prog 14 #[scrV a A1 c1, scrV b A2 c2] w fun e w' => ∃ v, e = .returned (.tuple #[v, .int .i64 (qg a b)]) /\ w'.ownsRow w.heap.size 3 1 v (qh a b).length (ints (qh a b)) /\ Below w.heap.size w w' := by
 obtain ⟨Q0, hQ0⟩ : ∃ Q0, Q0 = w.alloc (.cells #[.int .i64 a.w, .int .i64 a.h, .slice A1 a.cells.length c1, .int .i64 a.x, .int .i64 a.y, .bool a.shown] 24) := ⟨_, rfl⟩
 have B0 : Below w.heap.size w Q0 := by rw [hQ0]; exact (Below.refl _ w).alloc Xm _
 have K0 : Bq Q0 w.heap.size [.int .i64 a.w, .int .i64 a.h, .slice A1 a.cells.length c1, .int .i64 a.x, .int .i64 a.y, .bool a.shown] := by rw [hQ0]; exact Bq.new w _ _
 have z0 : Q0.heap.size = w.heap.size + 1 := by rw [hQ0]; simp
 obtain ⟨Q, hQ⟩ : ∃ Q, Q = Q0.alloc (.cells #[.int .i64 b.w, .int .i64 b.h, .slice A2 b.cells.length c2, .int .i64 b.x, .int .i64 b.y, .bool b.shown] 24) := ⟨_, rfl⟩
 have B1 : Below Q0.heap.size Q0 Q := by rw [hQ]; exact (Below.refl _ Q0).alloc Xm _
 have KA : Bq Q w.heap.size [.int .i64 a.w, .int .i64 a.h, .slice A1 a.cells.length c1, .int .i64 a.x, .int .i64 a.y, .bool a.shown] := K0.keep B1 (by omega)
 have KB : Bq Q (w.heap.size + 1) [.int .i64 b.w, .int .i64 b.h, .slice A2 b.cells.length c2, .int .i64 b.x, .int .i64 b.y, .bool b.shown] := by rw [hQ, <- z0]; exact Bq.new Q0 _ _
 have z1 : Q.heap.size = w.heap.size + 2 := by rw [hQ]; simp [z0]
 have BQ := B0.trans (B1.mono B0.size)
 have SA := (S1.below BQ Xm).more BQ.size
 have SB := (S2.below BQ Xm).more BQ.size
 have RA := Xk (kH a A1 c1 hc1 hA1 (by omega) ok1 Q SA)
 have RB := Xk (fun (W : World) (hB : Below Q.heap.size Q W) => kH b A2 c2 hc2 hA2 (by omega) ok2 W ((SB.below hB Xm).more hB.size))
 have HQ := Xk (show Q = (w.alloc (.cells #[.int .i64 a.w, .int .i64 a.h, .slice A1 a.cells.length c1, .int .i64 a.x, .int .i64 a.y, .bool a.shown] 24)).alloc (.cells #[.int .i64 b.w, .int .i64 b.h, .slice A2 b.cells.length c2, .int .i64 b.x, .int .i64 b.y, .bool b.shown] 24) by rw [hQ, hQ0])
 have HBQ := Xk BQ
 have HA := Xk KA
 have HC := Xk KB
 have ZS := Xk z1
 have HSA := Xk SA
 have HSB := Xk SB
 have CC : Hid (qg a b = if zh a = false \/ zh b = false then 180 else if a.w ≠ b.w \/ a.h ≠ b.h then 5 else 0) := Xk rfl
 have CL : Hid (qh a b = if qg a b = 0 then chgL (zd 0 a.cells b.cells) else []) := Xk rfl
 have RPA := Xk (fun h => zQ (s := a) h)
 have RPB := Xk (fun h => zQ (s := b) h)
 have RRB := Xk (fun h => jR (s := b) h)
 generalize qh a b = CH at *
 generalize qg a b = CD at *
 have EN : Hid (∀ (w' : World) (k : Int), Below w.heap.size w w' -> CD = k -> k ≠ 0 -> ∃ v, Ending.returned (.tuple #[.slice none 0 0, .int .i64 k]) = .returned (.tuple #[v, .int .i64 CD]) /\ w'.ownsRow w.heap.size 3 1 v CH.length (ints CH) /\ Below w.heap.size w w') := Xk (fun w' k hb ek ne => by
  have e : CH = [] := by rw [CL.out, if_neg (by rw [ek]; exact ne)]
  rw [e, ek]
  exact ⟨_, rfl, World.ownsRow_nil _ _ _ _, hb⟩)
 have a0 := HA.out.c 0 _ rfl
 have a1 := HA.out.c 1 _ rfl
 have a2 := HA.out.c 2 _ rfl
 have a3 := HA.out.c 3 _ rfl
 have a4 := HA.out.c 4 _ rfl
 have a5 := HA.out.c 5 _ rfl
 clear hQ hQ0 B0 B1 K0 KA KB z0 z1 BQ SA SB S1 S2 ok1 ok2 hA1 hA2
 simp only [scrV] at RA RB ⊢
 go_enter Tryz.func14, Tryz.ntmps14
 go_upto_region 1 with fail
 rw [<- HQ.out]
 clear HQ
 go_wp2_with fail
 refine RA.out.mono ?_; rintro e w1 ⟨rfl, h1⟩
 have HB1 := Xk h1
 have RB := Xk (RB.out w1 h1)
 have kA := HA.out.keep h1 (by rw [ZS.out]; omega)
 have kB := HC.out.keep h1 (by rw [ZS.out]; omega)
 have b0 := kB.c 0 _ rfl
 have b1 := kB.c 1 _ rfl
 have b2 := kB.c 2 _ rfl
 have b3 := kB.c 3 _ rfl
 have b4 := kB.c 4 _ rfl
 have b5 := kB.c 5 _ rfl
 have HKA := Xk kA
 have HKB := Xk kB
 clear RA a0 a1 a2 a3 a4 a5 h1 kA kB
 cases ra : zh a with
 | false =>
  have CE := Xk (show CD = 180 by rw [CC.out, ra]; simp)
  have FIN := Xk (EN.out w1 _ (HBQ.out.trans (HB1.out.mono HBQ.out.size)) CE.out (by decide))
  clear ra
  go_wp2_with fail
  refine bodyPost_ret (v := .tuple #[.slice none 0 0, .int .i64 180]) (by simp [results, Tryz.results14, go_sem]) rfl ?_
  exact FIN.out
 | true =>
 go_wp2_with fail
 refine RB.out.mono ?_; rintro e w2 ⟨rfl, h2⟩
 have HB2 := Xk (HB1.out.trans (h2.mono HB1.out.size))
 have kA := HKA.out.keep h2 (by have := HB1.out.size; rw [ZS.out] at this; omega)
 have kB := HKB.out.keep h2 (by have := HB1.out.size; rw [ZS.out] at this; omega)
 have a0 := kA.c 0 _ rfl
 have a1 := kA.c 1 _ rfl
 have d0 := kB.c 0 _ rfl
 have d1 := kB.c 1 _ rfl
 clear RB b0 b1 b2 b3 b4 b5 h2 kA kB HKA HKB
 cases rb : zh b with
 | false =>
  have CE := Xk (show CD = 180 by rw [CC.out, rb]; simp)
  have FIN := Xk (EN.out w2 _ (HBQ.out.trans (HB2.out.mono HBQ.out.size)) CE.out (by decide))
  clear ra rb
  go_wp2_with fail
  refine bodyPost_ret (v := .tuple #[.slice none 0 0, .int .i64 180]) (by simp [results, Tryz.results14, go_sem]) rfl ?_
  exact FIN.out
 | true =>
 have C3 := Xk (show CD = if a.w ≠ b.w \/ a.h ≠ b.h then 5 else 0 by rw [CC.out, ra, rb]; simp)
 have PA := Xk (RPA.out ra)
 have PB := Xk (RPB.out rb)
 have RRB := Xk (RRB.out rb)
 clear CC RPA RPB
 generalize a.w = aw at *
 generalize b.w = bw at *
 generalize a.h = ah at *
 generalize b.h = bh at *
 by_cases ew : aw = bw
 case neg =>
  have q : (aw == bw) = false := by rw [beq_eq_false_iff_ne]; exact ew
  have CE := Xk (show CD = 5 by rw [C3.out, if_pos (Or.inl ew)])
  have FIN := Xk (EN.out w2 _ (HBQ.out.trans (HB2.out.mono HBQ.out.size)) CE.out (by decide))
  clear ra rb ew
  go_wp2_with fail
  refine bodyPost_ret (v := .tuple #[.slice none 0 0, .int .i64 5]) (by simp [results, Tryz.results14, go_sem]) rfl ?_
  exact FIN.out
 subst ew
 by_cases eh : ah = bh
 case neg =>
  have q : (ah == bh) = false := by rw [beq_eq_false_iff_ne]; exact eh
  have CE := Xk (show CD = 5 by rw [C3.out, if_pos (Or.inr eh)])
  have FIN := Xk (EN.out w2 _ (HBQ.out.trans (HB2.out.mono HBQ.out.size)) CE.out (by decide))
  clear ra rb eh
  go_wp2_with fail
  refine bodyPost_ret (v := .tuple #[.slice none 0 0, .int .i64 5]) (by simp [results, Tryz.results14, go_sem]) rfl ?_
  exact FIN.out
 subst eh
 have CE := Xk (show CD = 0 by rw [C3.out, if_neg (fun z => z.elim (fun z => z rfl) (fun z => z rfl))])
 have CH0 := Xk (show CH = chgL (zd 0 a.cells b.cells) by rw [CL.out, if_pos CE.out])
 have LE := Xk (show a.cells.length = b.cells.length by have x := PA.out.2.1; have y := PB.out.2.1; omega)
 obtain ⟨n, hn⟩ : ∃ n, n = b.cells.length := ⟨_, rfl⟩
 have HN := Xk hn
 have HLN := Xk (show a.cells.length = n by rw [hn]; exact LE.out)
 rw [<- hn] at HC hl2
 rw [HLN.out] at HA
 clear ra rb C3 PA PB EN CL hn hc1 hc2 hl1
 go_wp2_with fail
 clear a0 a1 d0 d1
 go_loopw [6, 7] (fun s6 s7 wr => ∃ (i m : Nat) (A' : Option Addr) (c' : Nat) (P : List Int), i <= n /\ m <= i /\ s6 = .slice A' m c' /\ s7 = .int .i64 (i : Int) /\ Hid (P.length = m) /\ Hid (P ++ chgL (zd i (a.cells.drop i) (b.cells.drop i)) = CH) /\ Hid (rowR (b.cells.drop i) = true) /\ Hid (wr.ownsRow Q.heap.size 3 1 (.slice A' m c') m (ints P)) /\ Hid (Below Q.heap.size Q wr)) (fun _ s7 _ => n - (intOf s7).toNat)
 case atStart => exact ⟨0, 0, none, 0, [], Nat.zero_le _, Xm, rfl, rfl, Xk rfl, Xk (by rw [List.drop_zero, List.drop_zero]; exact CH0.out.symm), Xk (by rw [List.drop_zero]; exact RRB.out), Xk (World.ownsRow_nil _ _ _ _), HB2⟩
 case round =>
  obtain ⟨i, m, A', c', P, hi, hm, rfl, rfl, hp, hI, hR, ho, hb⟩ := hrel
  have BR := Xk (fun d os => hb.out.trans ((below_regrown wr d os).mono hb.out.size))
  have gQ : w.heap.size + 1 < Q.heap.size := by rw [ZS.out]; omega
  have HGQ := Xk gQ
  have b2 := (HC.out.keep hb.out gQ).c 2 _ rfl
  by_cases lt : i < n
  ·have il : i < b.cells.length := by rw [<- HN.out]; exact lt
   have il1 : i < a.cells.length := by rw [HLN.out]; exact lt
   have ne1 : zc a.cells ≠ [] := fun z => by have := congrArg List.length z; rw [qL, List.length_nil] at this; omega
   have ne2 : zc b.cells ≠ [] := fun z => by have := congrArg List.length z; rw [qL, List.length_nil] at this; omega
   obtain ⟨ad, rfl, hab, _⟩ := HSA.out ne1
   obtain ⟨ae, rfl, hbb, _⟩ := HSB.out ne2
   have y1w := (qT (HSB.out.below hb.out Xm) i il).2.1
   have x2 := fun d os => (HA.out.keep (BR.out d os) (by have := HGQ.out; omega)).c 2 _ rfl
   have y2 := fun d os => (HC.out.keep (BR.out d os) HGQ.out).c 2 _ rfl
   have CA := Xk (fun (W : World) (hB : Below Q.heap.size Q W) => qT (HSA.out.below hB Xm) i il1)
   have CB := Xk (fun (W : World) (hB : Below Q.heap.size Q W) => qT (HSB.out.below hB Xm) i il)
   have DU := JE LE.out il hR.out
   have p0 : (0 : Int) <= (i : Int) := by omega
   have p1 : (i : Int) < (n : Int) := by omega
   have p2 : (i : Int).toNat = i := by omega
   have p3 := Xl ((i : Int) + 1) (by omega)
   -- the rest of a round, once it is known whether the unit differs
   obtain ⟨nw, D, hnw, hiw, hST, hR2, hD⟩ : ∃ (nw : Nat) (D : Bool), (nw = 1 \/ nw = 2) /\ i + nw <= n /\ P ++ ((if D = true then upL i nw else []) ++ chgL (zd (i + nw) (a.cells.drop (i + nw)) (b.cells.drop (i + nw)))) = CH /\ rowR (b.cells.drop (i + nw)) = true /\ (((b.cells[i]).wide = 2 /\ nw = 2 /\ ∃ h : i + 1 < b.cells.length, D = !decide (a.cells[i] = b.cells[i] /\ a.cells[i + 1]'(by have := LE.out; omega) = b.cells[i + 1])) \/ ((b.cells[i]).wide = 1 /\ nw = 1 /\ D = !decide (a.cells[i] = b.cells[i]))) := by
    rcases DU with ⟨e, h, d, r⟩ | ⟨e, d, r⟩
    ·refine ⟨2, _, Or.inr rfl, by have := HN.out; omega, ?_, r, Or.inl ⟨e, rfl, h, rfl⟩⟩
     rw [<- hI.out, d, jp]
     congr 2
     by_cases q : a.cells[i] = b.cells[i] /\ a.cells[i + 1]'(by have := LE.out; omega) = b.cells[i + 1]
     ·rw [if_pos q, decide_eq_true q]; rfl
     ·rw [if_neg q, decide_eq_false q, Z6]; rfl
    ·refine ⟨1, _, Or.inl rfl, by omega, ?_, r, Or.inr ⟨e, rfl, rfl⟩⟩
     rw [<- hI.out, d, jp]
     congr 2
     by_cases q : a.cells[i] = b.cells[i]
     ·rw [if_pos q, decide_eq_true q]; rfl
     ·rw [if_neg q, decide_eq_false q, Z6]; rfl
   have HST := Xk hST
   have HR2 := Xk hR2
   have HD := Xk hD
   have wide : (b.cells[i]).wide = (nw : Int) := by
    rcases hD with ⟨e, z, _⟩ | ⟨e, z, _⟩
    ·rw [e, z]; rfl
    ·rw [e, z]; rfl
   rw [wide] at y1w
   have CB2 := Xk (fun (W : World) (hB : Below Q.heap.size Q W) (h : i + 1 < b.cells.length) => qT (HSB.out.below hB Xm) (i + 1) h)
   have CA2 := Xk (fun (W : World) (hB : Below Q.heap.size Q W) (h : i + 1 < a.cells.length) => qT (HSA.out.below hB Xm) (i + 1) h)
   have nwb : nw <= 2 := by omega
   have w64 : IntKind.i64.wrap (nw : Int) = (nw : Int) := Xl _ (by omega)
   clear DU hI hR hST hR2 hD wide ne1 ne2
   go_upto_region 9 with fail
   clear y1w b2
   go_cut [71] from 42 to 71 (fun s71 wx => s71 = .bool D /\ Hid (Below wr.heap.size wr wx))
   case first =>
    rcases HD.out with ⟨e2w, nw2, h2, hDD⟩ | ⟨e1w, nw1, hDD⟩
    ·have h1 : i + 1 < a.cells.length := by have := LE.out; omega
     have CB2 := Xk (fun (W : World) (hB : Below Q.heap.size Q W) => CB2.out W hB h2)
     have CA2 := Xk (fun (W : World) (hB : Below Q.heap.size Q W) => CA2.out W hB h1)
     have hDD := Xk hDD
     have p5 : (i : Int) + 1 < (n : Int) := by have := HN.out; omega
     have p6 : (0 : Int) <= (i : Int) + 1 := by omega
     have p7 : ((i : Int) + 1).toNat = i + 1 := by omega
     clear e2w HD
     subst nw2
     generalize a.cells[i] = x at *
     generalize b.cells[i] = y at *
     generalize a.cells[i + 1] = x' at *
     generalize b.cells[i + 1] = y' at *
     obtain ⟨tx, wx, ⟨fx, gx, ax⟩⟩ := x
     obtain ⟨ty, wy, ⟨fy, gy, ay⟩⟩ := y
     obtain ⟨tu, wu, ⟨fu, gu, au⟩⟩ := x'
     obtain ⟨tv, wv, ⟨fv, gv, av⟩⟩ := y'
     dsimp only at CA CB CA2 CB2
     have k0 := fun d os => (CA.out _ (BR.out d os)).1
     have k1 := fun d os => (CA.out _ (BR.out d os)).2.1
     have k2 := fun d os => (CA.out _ (BR.out d os)).2.2.1
     have k3 := fun d os => (CA.out _ (BR.out d os)).2.2.2.1
     have k4 := fun d os => (CA.out _ (BR.out d os)).2.2.2.2
     have l0 := fun d os => (CB.out _ (BR.out d os)).1
     have l1 := fun d os => (CB.out _ (BR.out d os)).2.1
     have l2 := fun d os => (CB.out _ (BR.out d os)).2.2.1
     have l3 := fun d os => (CB.out _ (BR.out d os)).2.2.2.1
     have l4 := fun d os => (CB.out _ (BR.out d os)).2.2.2.2
     have r0 := fun d os => (CA2.out _ (BR.out d os)).1
     have r1 := fun d os => (CA2.out _ (BR.out d os)).2.1
     have r2 := fun d os => (CA2.out _ (BR.out d os)).2.2.1
     have r3 := fun d os => (CA2.out _ (BR.out d os)).2.2.2.1
     have r4 := fun d os => (CA2.out _ (BR.out d os)).2.2.2.2
     have t0 := fun d os => (CB2.out _ (BR.out d os)).1
     have t1 := fun d os => (CB2.out _ (BR.out d os)).2.1
     have t2 := fun d os => (CB2.out _ (BR.out d os)).2.2.1
     have t3 := fun d os => (CB2.out _ (BR.out d os)).2.2.2.1
     have t4 := fun d os => (CB2.out _ (BR.out d os)).2.2.2.2
     by_cases e1 : (⟨ty, wy, ⟨fy, gy, ay⟩⟩ : Cel) = ⟨tx, wx, ⟨fx, gx, ax⟩⟩
     ·by_cases e2 : (⟨tv, wv, ⟨fv, gv, av⟩⟩ : Cel) = ⟨tu, wu, ⟨fu, gu, au⟩⟩
      ·have RD := Xk (show D = false by rw [hDD.out, decide_eq_true ⟨e1.symm, e2.symm⟩]; rfl)
       injection e1 with a1 a2 a3; injection a3 with a3 a4 a5
       injection e2 with d1 d2 d3; injection d3 with d3 d4 d5
       subst a1 a2 a3 a4 a5 d1 d2 d3 d4 d5
       clear hDD CA CB CA2 CB2 h1 h2
       refine zo 29 [] [] (by kernel_rfl) (by kernel_rfl) (by kernel_rfl) (by intro t ht; cases ht) ?_
       simp only [Xn, Xo, Xp, Xq]
       repeat (refine zf (by rfl) (fun K hK => ?_); go_simp; first | (refine hK _ ?_; clear hK K) | (apply Exists.intro; refine ⟨fun _ => ?_, hK _ ?_⟩; (fail); clear hK K))
       refine zn ?_
       intro W5 vs5 hl5 hv5
       have B5 := Xk (zj.1 hl5)
       clear hl5 hv5
       simp only [ze]
       go_wp2_with fail
       go_meet
       exact ⟨by rw [RD.out], B5⟩
      ·have RD := Xk (show D = true by rw [hDD.out, decide_eq_false (fun z => e2 z.2.symm)]; rfl)
       injection e1 with a1 a2 a3; injection a3 with a3 a4 a5
       subst a1 a2 a3 a4 a5
       clear hDD CA CB CA2 CB2 h1 h2
       refine zo 29 [] [] (by kernel_rfl) (by kernel_rfl) (by kernel_rfl) (by intro t ht; cases ht) ?_
       simp only [Xn, Xo, Xp, Xq]
       repeat (refine zf (by rfl) (fun K hK => ?_); go_simp; first | (refine hK _ ?_; clear hK K) | (apply Exists.intro; refine ⟨fun _ => ?_, hK _ ?_⟩; (fail); clear hK K))
       refine zf (by rfl) (fun K hK => ?_)
       go_simp
       refine ⟨.bool true, fun p => ?_, hK _ ?_⟩
       ·rw [jF _ _ e2]; exact ⟨rfl, rfl⟩
       clear hK K
       repeat (refine zf (by rfl) (fun K hK => ?_); go_simp; first | (refine hK _ ?_; clear hK K) | (apply Exists.intro; refine ⟨fun _ => ?_, hK _ ?_⟩; (fail); clear hK K))
       refine zn ?_
       intro W5 vs5 hl5 hv5
       have B5 := Xk (zj.1 hl5)
       clear hl5 hv5
       simp only [ze]
       go_wp2_with fail
       go_meet
       exact ⟨by rw [RD.out], B5⟩
     ·have RD := Xk (show D = true by rw [hDD.out, decide_eq_false (fun z => e1 z.1.symm)]; rfl)
      clear hDD CA CB CA2 CB2 h1 h2
      refine zo 29 [] [] (by kernel_rfl) (by kernel_rfl) (by kernel_rfl) (by intro t ht; cases ht) ?_
      simp only [Xn, Xo, Xp, Xq]
      repeat (refine zf (by rfl) (fun K hK => ?_); go_simp; first | (refine hK _ ?_; clear hK K) | (apply Exists.intro; refine ⟨fun _ => ?_, hK _ ?_⟩; (fail); clear hK K))
      refine zf (by rfl) (fun K hK => ?_)
      go_simp
      refine ⟨.bool true, fun p => ?_, hK _ ?_⟩
      ·rw [jF _ _ e1]; exact ⟨rfl, rfl⟩
      clear hK K
      repeat (refine zf (by rfl) (fun K hK => ?_); go_simp; first | (refine hK _ ?_; clear hK K) | (apply Exists.intro; refine ⟨fun _ => ?_, hK _ ?_⟩; (fail); clear hK K))
      refine zn ?_
      intro W5 vs5 hl5 hv5
      have B5 := Xk (zj.1 hl5)
      clear hl5 hv5
      simp only [ze]
      go_wp2_with fail
      go_meet
      exact ⟨by rw [RD.out], B5⟩
    ·have hDD := Xk hDD
     clear e1w HD CA2 CB2
     subst nw1
     generalize a.cells[i] = x at *
     generalize b.cells[i] = y at *
     obtain ⟨tx, wx, ⟨fx, gx, ax⟩⟩ := x
     obtain ⟨ty, wy, ⟨fy, gy, ay⟩⟩ := y
     dsimp only at CA CB
     have k0 := fun d os => (CA.out _ (BR.out d os)).1
     have k1 := fun d os => (CA.out _ (BR.out d os)).2.1
     have k2 := fun d os => (CA.out _ (BR.out d os)).2.2.1
     have k3 := fun d os => (CA.out _ (BR.out d os)).2.2.2.1
     have k4 := fun d os => (CA.out _ (BR.out d os)).2.2.2.2
     have l0 := fun d os => (CB.out _ (BR.out d os)).1
     have l1 := fun d os => (CB.out _ (BR.out d os)).2.1
     have l2 := fun d os => (CB.out _ (BR.out d os)).2.2.1
     have l3 := fun d os => (CB.out _ (BR.out d os)).2.2.2.1
     have l4 := fun d os => (CB.out _ (BR.out d os)).2.2.2.2
     by_cases e1 : (⟨ty, wy, ⟨fy, gy, ay⟩⟩ : Cel) = ⟨tx, wx, ⟨fx, gx, ax⟩⟩
     ·have RD := Xk (show D = false by rw [hDD.out, decide_eq_true e1.symm]; rfl)
      injection e1 with a1 a2 a3; injection a3 with a3 a4 a5
      subst a1 a2 a3 a4 a5
      clear hDD CA CB
      refine zo 29 [] [] (by kernel_rfl) (by kernel_rfl) (by kernel_rfl) (by intro t ht; cases ht) ?_
      simp only [Xn, Xo, Xp, Xq]
      repeat (refine zf (by rfl) (fun K hK => ?_); go_simp; first | (refine hK _ ?_; clear hK K) | (apply Exists.intro; refine ⟨fun _ => ?_, hK _ ?_⟩; (fail); clear hK K))
      refine zn ?_
      intro W5 vs5 hl5 hv5
      have B5 := Xk (zj.1 hl5)
      clear hl5 hv5
      simp only [ze]
      go_wp2_with fail
      go_meet
      exact ⟨by rw [RD.out], B5⟩
     ·have RD := Xk (show D = true by rw [hDD.out, decide_eq_false (fun z => e1 z.symm)]; rfl)
      clear hDD CA CB
      refine zo 29 [] [] (by kernel_rfl) (by kernel_rfl) (by kernel_rfl) (by intro t ht; cases ht) ?_
      simp only [Xn, Xo, Xp, Xq]
      repeat (refine zf (by rfl) (fun K hK => ?_); go_simp; first | (refine hK _ ?_; clear hK K) | (apply Exists.intro; refine ⟨fun _ => ?_, hK _ ?_⟩; (fail); clear hK K))
      refine zf (by rfl) (fun K hK => ?_)
      go_simp
      refine ⟨.bool true, fun p => ?_, hK _ ?_⟩
      ·rw [jF _ _ e1]; exact ⟨rfl, rfl⟩
      clear hK K
      repeat (refine zf (by rfl) (fun K hK => ?_); go_simp; first | (refine hK _ ?_; clear hK K) | (apply Exists.intro; refine ⟨fun _ => ?_, hK _ ?_⟩; (fail); clear hK K))
      refine zn ?_
      intro W5 vs5 hl5 hv5
      have B5 := Xk (zj.1 hl5)
      clear hl5 hv5
      simp only [ze]
      go_wp2_with fail
      go_meet
      exact ⟨by rw [RD.out], B5⟩
   case rest =>
    obtain ⟨rfl, hcb⟩ := hcut
    obtain ⟨V, hV⟩ : ∃ V, V = wc := ⟨_, rfl⟩
    rw [<- hV] at hcb ⊢
    have OV := Xk (zF ho.out hcb.out)
    have BV := Xk (hb.out.trans (hcb.out.mono hb.out.size))
    have wi := Xl ((i : Int) + (nw : Int)) (by omega)
    clear hV hcb ho hb x2 y2 CA CB CA2 CB2 HD BR
    cases D with
    | false =>
     have NX := Xk (show P ++ chgL (zd (i + nw) (a.cells.drop (i + nw)) (b.cells.drop (i + nw))) = CH from HST.out)
     go_wp2_with fail
     go_roundw
     case rel => exact ⟨i + nw, m, A', c', P, hiw, by omega, rfl, by go_num, hp, NX, HR2, OV, BV⟩
     case measure => simp [intOf]; omega
    | true =>
     have NX := Xk (show (P ++ upL i nw) ++ chgL (zd (i + nw) (a.cells.drop (i + nw)) (b.cells.drop (i + nw))) = CH by rw [List.append_assoc]; exact HST.out)
     go_wp2_with fail
     go_loopw [6, 9] (fun s6 s9 wx => ∃ (j : Nat) (A2 : Option Addr) (c2 : Nat), j <= nw /\ s6 = .slice A2 (m + j) c2 /\ s9 = .int .i64 (j : Int) /\ Hid (wx.ownsRow Q.heap.size 3 1 (.slice A2 (m + j) c2) (m + j) (ints (P ++ upL i j))) /\ Hid (Below Q.heap.size Q wx)) (fun _ s9 _ => nw - (intOf s9).toNat)
     case atStart => exact ⟨0, A', c', Nat.zero_le _, rfl, rfl, by rw [show upL i 0 = [] from rfl, List.append_nil]; exact OV, BV⟩
     case round =>
      obtain ⟨j, A3, c3, hj, rfl, rfl, hoj, hbj⟩ := hrel
      clear OV BV
      by_cases lj : j < nw
      ·obtain ⟨A4, c4, w4, R4, o4, b4⟩ := app_num hoj.out ((i : Int) + (j : Int)) hbj.out.size (by omega)
       have ou : Hid (w4.ownsRow Q.heap.size 3 1 (.slice A4 (m + (j + 1)) c4) (m + (j + 1)) (ints (P ++ upL i (j + 1)))) := Xk (by
        rw [ZV, <- List.append_assoc, Int.natCast_add]
        exact o4)
       have HB4 := Xk (hbj.out.trans b4)
       obtain ⟨mj, hmj⟩ : ∃ mj, mj = m + j := ⟨_, rfl⟩
       have hm1 : m + (j + 1) = mj + 1 := by omega
       rw [hm1] at ou
       rw [<- hmj] at R4 ⊢
       have HMJ := Xk hm1
       have r5 : (j : Int) < (nw : Int) := by omega
       have rk := Xl ((j : Int) + 1) (by omega)
       have ri := Xl ((i : Int) + (j : Int)) (by omega)
       clear o4 b4 hoj hbj hmj hm1
       go_wp2_with (first | (at_builtin; refine jl rfl (.tmp 77) (.tmp 81) 38 38 rfl _ _ _ _ rfl rfl R4 ?_) | fail)
       go_roundw
       case rel => exact ⟨j + 1, A4, c4, by omega, by rw [HMJ.out], by go_num, by rw [HMJ.out]; exact ou, HB4⟩
       case measure => simp [intOf]; omega
      ·have e : j = nw := by omega
       subst e
       have r5 : ¬ (j : Int) < (j : Int) := by omega
       have LP := Xk (show (P ++ upL i j).length = m + j by rw [List.length_append, hp.out, kM])
       go_wp2_with fail
       go_roundw
       case rel => exact ⟨i + j, m + j, A3, c3, P ++ upL i j, hiw, by omega, rfl, by go_num, LP, NX, HR2, hoj, hbj⟩
       case measure => simp [intOf]; omega
  ·have e : i = n := by omega
   subst e
   have p5 : ¬ (i : Int) < (i : Int) := by omega
   have FIN := Xk (show P = CH by
    rw [<- hI.out, HN.out, List.drop_length, jS]
    simp [chgL])
   have OO := Xk (show wr.ownsRow w.heap.size 3 1 (.slice A' m c') CH.length (ints CH) by rw [<- FIN.out, hp.out]; exact qR ho.out HBQ.out.size)
   have HBX := Xk (HBQ.out.trans (hb.out.mono HBQ.out.size))
   clear ho hI hR
   go_wp2_with fail
   refine bodyPost_ret (v := .tuple #[.slice A' m c', .int .i64 0]) (by simp [results, Tryz.results14, go_sem]) rfl ?_
   exact ⟨.slice A' m c', by rw [CE.out], OO.out, HBX.out⟩
end
end
section
open Go Go.RowKit Go.Sort
section
theorem own_blkI {w : World} {LO sz g n c : Nat} {T : TypeId} {xs : List Value} (h : w.ownsRow LO T sz (.slice (some ⟨g, 0, none⟩) n c) n xs) : LO <= g /\ g < w.heap.size := by
 rcases h.2 with ⟨z, _⟩ | ⟨g', cap, cur, z, hb, hg, hn, _⟩
 ·cases z
 ·injection z with z1 z2 z3
  injection z1 with z1
  injection z1 with z1
  subst z1
  exact ⟨hb, (Array.getElem?_eq_some_iff.1 hg).1⟩
theorem kS {w : World} {LO sz n : Nat} {T : TypeId} {v : Value} {xs : List Value} (h : w.ownsRow LO T sz v n xs) (ne : v ≠ .slice none 0 0) : ∃ g c, v = .slice (some ⟨g, 0, none⟩) n c := by
 rcases h.2 with ⟨z, _⟩ | ⟨g, c, cur, z, _⟩
 ·exact absurd z ne
 ·exact ⟨g, c, z⟩
theorem app_numX {w : World} {LO n c : Nat} {A : Option Addr} {xs : List Int} (o : w.ownsRow LO 3 1 (.slice A n c) n (ints xs)) (b : Int) (hLO : LO <= w.heap.size) (len : n <= 1000000000000) :
  ∃ A' c' w3, (Builtin.append_ #[38, 38] 38 #[.slice A n c, .slice (some ⟨w.heap.size, 0, none⟩) 1 1]).run Tryz.prog (w.alloc (.cells #[.int .i64 b] 3)) = .ok (.slice A' (n + 1) c') w3 /\
   w3.ownsRow LO 3 1 (.slice A' (n + 1) c') (n + 1) (ints (xs ++ [b])) /\ (w.alloc (.cells #[.int .i64 b] 3)).grownBy w3 (Value.slice A n c).ownBlock /\ ((Value.slice A' (n + 1) c').ownBlock = (Value.slice A n c).ownBlock \/ (Value.slice A' (n + 1) c').ownBlock = some (w.heap.size + 1)) := by
 obtain ⟨i0, hi0, hz0, hz1, hz2⟩ := info_parts jW
 have bu : Below w.heap.size w (w.alloc (.cells #[.int .i64 b] 3)) := (Below.refl _ w).alloc Xm _
 obtain ⟨v', w3, r1, r2, r3, r4, r5⟩ := run_append_own_at (P := Tryz.prog) (w.alloc (.cells #[.int .i64 b] 3)) LO 38 38 3 i0 (.int .i64 0) 1 8 Tryz.underlying38 hi0 hz0 hz1 hz2 rfl (by decide) _ n _ (zF o bu) ⟨w.heap.size, 0, none⟩ 1 1 [.int .i64 b] rfl (qj w [.int .i64 b] _) (by intro u hu; rw [List.mem_singleton.1 hu]; rfl) (by unfold maxLen; omega) (by omega) (Nat.le_trans hLO bu.size)
 obtain ⟨A', c', e⟩ := qX r2
 subst e
 refine ⟨A', c', w3, r1, by rw [xi]; exact r2, r3, ?_⟩
 simpa using r5
structure MidI (V4 : World) (lo hi : Nat) (V6 : World) (n : Nat) (v : Value) (xs : List Int) (w : World) : Prop where
 own : w.ownsRow V4.heap.size 3 1 v n (ints xs)
 bel : Below V4.heap.size V4 w
 mid : ∀ q, lo <= q -> q < hi -> w.heap[q]? = V6.heap[q]?
 loc : ∀ g, v.ownBlock = some g -> g < lo \/ hi <= g
 size : hi <= w.heap.size
theorem MidI.app {V4 V6 w : World} {lo hi n c : Nat} {A : Option Addr} {xs : List Int} (h : MidI V4 lo hi V6 n (.slice A n c) xs w) (b : Int) (len : n <= 1000000000000) :
  ∃ A' c' w3, (Builtin.append_ #[38, 38] 38 #[.slice A n c, .slice (some ⟨w.heap.size, 0, none⟩) 1 1]).run Tryz.prog (w.alloc (.cells #[.int .i64 b] 3)) = .ok (.slice A' (n + 1) c') w3 /\ MidI V4 lo hi V6 (n + 1) (.slice A' (n + 1) c') (xs ++ [b]) w3 := by
 obtain ⟨A', c', w3, r1, r2, r3, r4⟩ := app_numX h.own b h.bel.size len
 have bu : Below w.heap.size w (w.alloc (.cells #[.int .i64 b] 3)) := (Below.refl _ w).alloc Xm _
 refine ⟨A', c', w3, r1, r2, (h.bel.trans (bu.mono h.bel.size)).grown r3 (Nat.le_trans h.bel.size bu.size) (fun k hk => ((zF h.own bu).lt k hk).1), fun q l1 l2 => ?_, fun g hg => ?_, Nat.le_trans h.size (Nat.le_trans bu.size r3.size)⟩
 ·have lq : q < w.heap.size := Nat.lt_of_lt_of_le l2 h.size
  exact (r3.block q (Nat.lt_of_lt_of_le lq bu.size) (fun z => by have := h.loc q z.symm; omega)).trans ((bu.block q lq).trans (h.mid q l1 l2))
 ·rcases r4 with z | z
  ·exact h.loc g (by rw [<- z]; exact hg)
  ·rw [z] at hg; injection hg with hg; have := h.size; omega
theorem MidI.put {V4 V6 w : World} {lo hi n c g k : Nat} {xs : List Int} {b : Int} (h : MidI V4 lo hi V6 n (.slice (some ⟨g, 0, none⟩) n c) xs w) (hk : k < n) : (∃ u, w.cell? ⟨g, k, none⟩ = some u) /\ w.frozen? ⟨g, k, none⟩ = false /\ MidI V4 lo hi V6 n (.slice (some ⟨g, 0, none⟩) n c) (xs.set k b) (w.setCell ⟨g, k, none⟩ (.int .i64 b)) := by
 have ln := h.own.1
 rw [xM] at ln
 have cl := h.own.cellAt k (by omega)
 rw [List.getElem?_eq_getElem (by rw [xM]; omega)] at cl
 obtain ⟨lo', lt⟩ := own_blkI h.own
 have gl := h.loc g rfl
 refine ⟨⟨_, cl⟩, h.own.frozenAt k, ⟨?_, h.bel.setCell (p := ⟨g, k, none⟩) lo' _, fun q l1 l2 => (heap_setCell_other w _ _ _ (fun z => by have z : q = g := z; omega)).trans (h.mid q l1 l2), h.loc, by simpa using h.size⟩⟩
 have s := (h.own.stored k (.int .i64 b)).1
 have e : ints (xs.set k b) = (ints xs).set k (.int .i64 b) := by unfold ints; rw [List.map_set]
 rw [e]
 exact s
theorem MidI.other {V4 V6 w : World} {lo hi n : Nat} {v u : Value} {xs : List Int} {m : Nat} {ys : List Value} (h : MidI V4 lo hi V6 n v xs w) (hv : hi = V6.heap.size) (o : V6.ownsRow lo 3 1 u m ys) : w.ownsRow lo 3 1 u m ys := by
 refine ⟨o.1, ?_⟩
 rcases o.2 with z | ⟨g, cap, cur, z, lb, e, rest⟩
 ·exact Or.inl z
 ·exact Or.inr ⟨g, cap, cur, z, lb, (h.mid g lb (by rw [hv]; exact (Array.getElem?_eq_some_iff.1 e).1)).trans e, rest⟩
end
end
section
open Go.RowKit Go.Sort
theorem Z7 : ∀ (L : List (ByteArray × Int)) (i : Nat) (h : i < L.length), (cls L)[i * 2]? = some (.string (L[i]).1) /\ (cls L)[i * 2 + 1]? = some (.int .i64 (L[i]).2)
 | [], i, h => by cases h
 | p :: l, 0, _ => ⟨rfl, rfl⟩
 | p :: l, i + 1, h => by
  have ih := Z7 l i (by simpa using h)
  have e : cls (p :: l) = .string p.1 :: .int .i64 p.2 :: cls l := rfl
  rw [e, show (i + 1) * 2 = i * 2 + 1 + 1 by omega]
  simpa using ih
theorem kT {w : World} {B : Nat} {A : Option Addr} {L : List (ByteArray × Int)} (h : Sees w B A (cls L)) (i : Nat) (hi : i < L.length) : ∃ ad, A = some ad /\ ad.block < B /\ w.cell? (ad.add (i * 2)) = some (.string (L[i]).1) /\ w.cell? ⟨(ad.add (i * 2)).block, (ad.add (i * 2)).off + 1, none⟩ = some (.int .i64 (L[i]).2) := by
 obtain ⟨ad, e, hb, hc⟩ := h (fun e => by have := cls_len L; rw [e] at this; simp at this; omega)
 have c := Z7 L i hi
 refine ⟨ad, e, hb, hc _ _ c.1, ?_⟩
 rw [qm (ad.add (i * 2)) 1 (by decide), jO]
 exact hc _ _ c.2
theorem kU {w : World} {base : Nat} {T : TypeId} {v : Value} {n : Nat} {xs : List Value} (h : w.ownsRow base T 2 v n xs) : ∃ A c, v = .slice A n c /\ n <= c /\ Sees w w.heap.size A xs := by
 rcases xG h with ⟨rfl, rfl⟩ | ⟨g, c, rfl, h1, h2, h3, h4, h5⟩
 ·have := h.1
  simp at this
  subst this
  exact ⟨_, _, rfl, Xm, Sees.nil _ _ _⟩
 ·refine ⟨_, _, rfl, h3, fun _ => ⟨_, rfl, h2, fun j u hj => ?_⟩⟩
  have e : ((⟨g, 0, none⟩ : Addr).add j) = ⟨g, j, none⟩ := by
   unfold Addr.add
   split
   ·rename_i z; rw [z]
   ·simp
  rw [e]
  exact h5 j u hj
theorem str_ne {s t : ByteArray} (h : ¬ s = t) : ¬ s.toList = t.toList := fun e => h (by
 rw [ByteArray.toList_eq, ByteArray.toList_eq] at e
 exact ByteArray.ext (Array.toList_inj.1 e))
set_option maxHeartbeats 16000000 in
set_option maxRecDepth 100000 in
theorem d_Joins (a b : ByteArray) (h : a.size + b.size <= 1000000000000) (w : World) : Calls Tryz.prog 51 #[.string a, .string b] w fun e w' => e = .returned (.bool (jC a b)) /\ Below w.heap.size w w' := by
 have S1 := Xk (xC (a ++ b) (by rw [ByteArray.size_append]; exact h))
 have S2 := Xk (xC a (by omega))
 have S3 := Xk (xC b (by omega))
 have L1 := jJ (a ++ b)
 have L2 := jJ a
 have L3 := jJ b
 rw [ByteArray.size_append] at L1
 have JB : Hid (jC a b = decide (zx (a ++ b) ≠ zx a ++ zx b)) := Xk rfl
 generalize jC a b = r at *
 have nov : (9223372036854775807 < a.size + b.size) = False := eq_false (by omega)
 generalize zx (a ++ b) = L at *
 generalize zx a = M at *
 generalize zx b = K at *
 go_enter Tryz.func51, Tryz.ntmps51
 go_wp2_with fail
 refine (S1.out _).mono ?_; rintro e w1 ⟨v1, rfl, o1, b1⟩
 obtain ⟨A1, c1, rfl, n1, s1⟩ := kU o1
 have W1 := Xk b1
 have Q1 := Xk s1
 clear o1 b1 s1
 go_wp2_with fail
 refine (S2.out _).mono ?_; rintro e w2 ⟨v2, rfl, o2, b2⟩
 obtain ⟨A2, c2, rfl, n2, s2⟩ := kU o2
 have W2 := Xk (zk W1.out W1.out.size b2)
 have Q1 := Xk ((Q1.out.below b2 Xm).more b2.size)
 have Q2 := Xk s2
 clear o2 b2 s2 W1
 go_wp2_with fail
 refine (S3.out _).mono ?_; rintro e w3 ⟨v3, rfl, o3, b3⟩
 obtain ⟨A3, c3, rfl, n3, s3⟩ := kU o3
 have W3 := Xk (zk W2.out W2.out.size b3)
 have Q1 := Xk ((Q1.out.below b3 Xm).more b3.size)
 have Q2 := Xk ((Q2.out.below b3 Xm).more b3.size)
 have Q3 := Xk s3
 clear o3 b3 s3 W2
 obtain ⟨n, hn⟩ : ∃ n, n = L.length := ⟨_, rfl⟩
 obtain ⟨m, hm⟩ : ∃ m, m = M.length := ⟨_, rfl⟩
 obtain ⟨p, hp⟩ : ∃ p, p = K.length := ⟨_, rfl⟩
 rw [<- hn] at L1 n1 ⊢
 rw [<- hm] at L2 n2 ⊢
 rw [<- hp] at L3 n3 ⊢
 have HN := Xk hn
 have HM := Xk hm
 have HP := Xk hp
 clear hn hm hp nov
 by_cases e : n = m + p
 ·subst e
  have e1 : ((m : Int) + (p : Int) != (m : Int) + (p : Int)) = false := by simp
  go_wp2_with fail
  go_loopw [28] (fun i wr => ∃ k : Nat, k <= m + p /\ i = .int .i64 k /\ Hid (∀ j, j < k -> L[j]? = (M ++ K)[j]?) /\ Hid (Below w3.heap.size w3 wr)) (fun i _ => m + p - (intOf i).toNat)
  case atStart => exact ⟨0, Nat.zero_le _, rfl, Xk (fun j h => by omega), Xk (Below.refl _ _)⟩
  case round =>
   obtain ⟨k, hk, rfl, hr, hb⟩ := hrel
   by_cases lt : k < m + p
   ·have kl : k < L.length := by rw [<- HN.out]; exact lt
    obtain ⟨ad1, rfl, a1, x1, y1⟩ := kT Q1.out k kl
    have x1 := (hb.out.cell (p := ad1.add (k * 2)) (by rw [zg]; exact a1)).trans x1
    have y1 := (hb.out.cell (p := ⟨(ad1.add (k * 2)).block, (ad1.add (k * 2)).off + 1, none⟩) (by simp only [zg]; exact a1)).trans y1
    have E1 : Hid (L[k]? = some (L[k].1, L[k].2)) := Xk (by rw [List.getElem?_eq_getElem kl])
    generalize (L[k]).1 = t1 at *
    generalize (L[k]).2 = u1 at *
    have lt2 : (k : Int) < (m : Int) + (p : Int) := by omega
    go_upto_region 7 with fail
    have K2 : C2 (wr.alloc (.cells #[.string t1, .int .i64 u1] 109)) wr.heap.size (.string t1) (.int .i64 u1) := by constructor <;> simp [go_sem]
    have HX := Xk (hb.out.alloc hb.out.size (.cells #[.string t1, .int .i64 u1] 109))
    generalize wr.alloc (.cells #[.string t1, .int .i64 u1] 109) = X at *
    have k00 := fun d os => ((K2).regrown d os).c0
    have k01 := fun d os => ((K2).regrown d os).c1
    clear x1 y1 hb K2
    by_cases km : k < m
    ·have nm : ¬ m <= k := by omega
     obtain ⟨ad2, rfl, a2, x2, y2⟩ := kT Q2.out k (show k < M.length by rw [<- HM.out]; exact km)
     have x2 := fun d os => ((HX.out.trans ((below_regrown X d os).mono HX.out.size)).cell (p := ad2.add (k * 2)) (by rw [zg]; exact a2)).trans x2
     have y2 := fun d os => ((HX.out.trans ((below_regrown X d os).mono HX.out.size)).cell (p := ⟨(ad2.add (k * 2)).block, (ad2.add (k * 2)).off + 1, none⟩) (by simp only [zg]; exact a2)).trans y2
     have E2 : Hid ((M ++ K)[k]? = some (M[k].1, M[k].2)) := Xk (by rw [List.getElem?_append_left (by rw [<- HM.out]; exact km), List.getElem?_eq_getElem (by rw [<- HM.out]; exact km)])
     generalize (M[k]).1 = t2 at *
     generalize (M[k]).2 = u2 at *
     by_cases te : t1 = t2
     ·subst te
      by_cases ue : u1 = u2
      ·subst ue
       have NX : Hid (∀ j, j < k + 1 -> L[j]? = (M ++ K)[j]?) := Xk (fun j hj => by
        by_cases jk : j = k
        ·rw [jk, E1.out, E2.out]
        ·exact hr.out j (by omega))
       refine zo 28 [] [] (by kernel_rfl) (by kernel_rfl) (by kernel_rfl) (by intro t ht; cases ht) ?_
       simp only [Xn, Xo, Xp, Xq]
       repeat (refine zf (by rfl) (fun K hK => ?_); go_simp; first | (refine hK _ ?_; clear hK K) | (apply Exists.intro; refine ⟨fun _ => ?_, hK _ ?_⟩; (fail); clear hK K))
       refine zn ?_
       intro W5 vs5 hl hv
       have hb5 := zj.1 hl
       have B5 := Xk (HX.out.trans (hb5.mono HX.out.size))
       clear hl hv hb5 x2 y2 k00 k01
       simp only [ze]
       go_wp2_with fail
       go_roundw
       case rel => exact ⟨k + 1, by omega, by go_num, NX, B5⟩
       case measure => simp [intOf]; omega
      ·have NE : Hid (r = true) := Xk (by
        rw [JB.out]
        refine decide_eq_true (fun h => ue ?_)
        have := E1.out
        rw [h, E2.out] at this
        exact (Prod.mk.inj (Option.some.inj this)).2.symm)
       refine zo 28 [] [] (by kernel_rfl) (by kernel_rfl) (by kernel_rfl) (by intro t ht; cases ht) ?_
       simp only [Xn, Xo, Xp, Xq]
       repeat (refine zf (by rfl) (fun K hK => ?_); go_simp; first | (refine hK _ ?_; clear hK K) | (apply Exists.intro; refine ⟨fun _ => ?_, hK _ ?_⟩; (fail); clear hK K))
       refine zn ?_
       intro W5 vs5 hl hv
       have hb5 := zj.1 hl
       have B5 := Xk (HX.out.trans (hb5.mono HX.out.size))
       clear hl hv hb5 x2 y2 k00 k01
       simp only [ze]
       go_wp2_with fail
       go_ret
       exact ⟨zu (by rw [NE.out]), W3.out.trans (B5.out.mono W3.out.size)⟩
     ·have NE : Hid (r = true) := Xk (by
       rw [JB.out]
       refine decide_eq_true (fun h => te ?_)
       have := E1.out
       rw [h, E2.out] at this
       exact (Prod.mk.inj (Option.some.inj this)).1.symm)
      have tl := str_ne te
      refine zo 28 [] [] (by kernel_rfl) (by kernel_rfl) (by kernel_rfl) (by intro t ht; cases ht) ?_
      simp only [Xn, Xo, Xp, Xq]
      repeat (refine zf (by rfl) (fun K hK => ?_); go_simp; first | (refine hK _ ?_; clear hK K) | (apply Exists.intro; refine ⟨fun _ => ?_, hK _ ?_⟩; (fail); clear hK K))
      refine zn ?_
      intro W5 vs5 hl hv
      have hb5 := zj.1 hl
      have B5 := Xk (HX.out.trans (hb5.mono HX.out.size))
      clear hl hv hb5 x2 y2 k00 k01
      simp only [ze]
      go_wp2_with fail
      go_ret
      exact ⟨zu (by rw [NE.out]), W3.out.trans (B5.out.mono W3.out.size)⟩
    ·obtain ⟨q, hq⟩ : ∃ q : Nat, (k : Int) - (m : Int) = (q : Int) := ⟨k - m, by omega⟩
     have qp : q < p := by omega
     have mk : m <= k := by omega
     have wq : IntKind.i64.wrap (q : Int) = (q : Int) := by rw [IntKind.wrap_i64]; omega
     have qk : k - M.length = q := by rw [<- HM.out]; omega
     obtain ⟨ad2, rfl, a2, x2, y2⟩ := kT Q3.out q (show q < K.length by rw [<- HP.out]; exact qp)
     have x2 := fun d os => ((HX.out.trans ((below_regrown X d os).mono HX.out.size)).cell (p := ad2.add (q * 2)) (by rw [zg]; exact a2)).trans x2
     have y2 := fun d os => ((HX.out.trans ((below_regrown X d os).mono HX.out.size)).cell (p := ⟨(ad2.add (q * 2)).block, (ad2.add (q * 2)).off + 1, none⟩) (by simp only [zg]; exact a2)).trans y2
     have E2 : Hid ((M ++ K)[k]? = some (K[q].1, K[q].2)) := Xk (by rw [List.getElem?_append_right (by rw [<- HM.out]; exact mk), qk, List.getElem?_eq_getElem (by rw [<- HP.out]; exact qp)])
     generalize (K[q]).1 = t2 at *
     generalize (K[q]).2 = u2 at *
     by_cases te : t1 = t2
     ·subst te
      by_cases ue : u1 = u2
      ·subst ue
       have NX : Hid (∀ j, j < k + 1 -> L[j]? = (M ++ K)[j]?) := Xk (fun j hj => by
        by_cases jk : j = k
        ·rw [jk, E1.out, E2.out]
        ·exact hr.out j (by omega))
       refine zo 28 [] [] (by kernel_rfl) (by kernel_rfl) (by kernel_rfl) (by intro t ht; cases ht) ?_
       simp only [Xn, Xo, Xp, Xq]
       repeat (refine zf (by rfl) (fun K hK => ?_); go_simp; first | (refine hK _ ?_; clear hK K) | (apply Exists.intro; refine ⟨fun _ => ?_, hK _ ?_⟩; (fail); clear hK K))
       refine zn ?_
       intro W5 vs5 hl hv
       have hb5 := zj.1 hl
       have B5 := Xk (HX.out.trans (hb5.mono HX.out.size))
       clear hl hv hb5 x2 y2 k00 k01
       simp only [ze]
       go_wp2_with fail
       go_roundw
       case rel => exact ⟨k + 1, by omega, by go_num, NX, B5⟩
       case measure => simp [intOf]; omega
      ·have NE : Hid (r = true) := Xk (by
        rw [JB.out]
        refine decide_eq_true (fun h => ue ?_)
        have := E1.out
        rw [h, E2.out] at this
        exact (Prod.mk.inj (Option.some.inj this)).2.symm)
       refine zo 28 [] [] (by kernel_rfl) (by kernel_rfl) (by kernel_rfl) (by intro t ht; cases ht) ?_
       simp only [Xn, Xo, Xp, Xq]
       repeat (refine zf (by rfl) (fun K hK => ?_); go_simp; first | (refine hK _ ?_; clear hK K) | (apply Exists.intro; refine ⟨fun _ => ?_, hK _ ?_⟩; (fail); clear hK K))
       refine zn ?_
       intro W5 vs5 hl hv
       have hb5 := zj.1 hl
       have B5 := Xk (HX.out.trans (hb5.mono HX.out.size))
       clear hl hv hb5 x2 y2 k00 k01
       simp only [ze]
       go_wp2_with fail
       go_ret
       exact ⟨zu (by rw [NE.out]), W3.out.trans (B5.out.mono W3.out.size)⟩
     ·have NE : Hid (r = true) := Xk (by
       rw [JB.out]
       refine decide_eq_true (fun h => te ?_)
       have := E1.out
       rw [h, E2.out] at this
       exact (Prod.mk.inj (Option.some.inj this)).1.symm)
      have tl := str_ne te
      refine zo 28 [] [] (by kernel_rfl) (by kernel_rfl) (by kernel_rfl) (by intro t ht; cases ht) ?_
      simp only [Xn, Xo, Xp, Xq]
      repeat (refine zf (by rfl) (fun K hK => ?_); go_simp; first | (refine hK _ ?_; clear hK K) | (apply Exists.intro; refine ⟨fun _ => ?_, hK _ ?_⟩; (fail); clear hK K))
      refine zn ?_
      intro W5 vs5 hl hv
      have hb5 := zj.1 hl
      have B5 := Xk (HX.out.trans (hb5.mono HX.out.size))
      clear hl hv hb5 x2 y2 k00 k01
      simp only [ze]
      go_wp2_with fail
      go_ret
      exact ⟨zu (by rw [NE.out]), W3.out.trans (B5.out.mono W3.out.size)⟩
   ·have e : k = m + p := by omega
    have nk : ¬ (k : Int) < (m : Int) + (p : Int) := by omega
    have R : Hid (r = false) := Xk (by
     rw [JB.out]
     refine decide_eq_false (fun h => h ?_)
     refine List.ext_getElem? fun j => ?_
     by_cases jk : j < k
     ·exact hr.out j jk
     ·rw [List.getElem?_eq_none (by rw [<- HN.out]; omega), List.getElem?_eq_none (by rw [List.length_append, <- HM.out, <- HP.out]; omega)])
    have BB := Xk (W3.out.trans (hb.out.mono W3.out.size))
    clear hr hb
    go_wp2_with fail
    go_ret
    exact ⟨zu (by rw [R.out]), BB.out⟩
 ·have e1 : ((n : Int) != (m : Int) + (p : Int)) = true := by simp; omega
  have R : Hid (r = true) := Xk (by
   rw [JB.out]
   refine decide_eq_true (fun h => e ?_)
   rw [HN.out, h, List.length_append, <- HM.out, <- HP.out])
  clear e
  go_wp2_with fail
  go_ret
  exact ⟨zu (by rw [R.out]), W3.out⟩
end
section
open Go Go.RowKit Go.Sort
def Own1 (W : World) (b : Nat) (vs : List Value) (T : TypeId) : Prop := W.heap[b]? = some (.cells vs.toArray T (0, 0))
theorem Own1.blk {W : World} {b : Nat} {vs : List Value} {T : TypeId} (h : Own1 W b vs T) : Blk W b vs := by
 unfold Own1 at h
 refine ⟨fun i v hv => ?_, fun i v hv => ?_⟩
 ·simp [World.cell?, h, hv]
 ·simp [World.frozen?, h]
theorem Own1.lt {W : World} {b : Nat} {vs : List Value} {T : TypeId} (h : Own1 W b vs T) : b < W.heap.size := (Array.getElem?_eq_some_iff.1 h).1
theorem Own1.set {W : World} {b : Nat} {vs : List Value} {T : TypeId} (h : Own1 W b vs T) (i : Nat) (y : Value) : Own1 (W.setCell ⟨b, i, none⟩ y) b (vs.set i y) T := by
 have := heap_setCell_same W b i vs.toArray T y h
 unfold Own1
 rw [this]
 simp
theorem Own1.of_grown {W W' : World} {b : Nat} {vs : List Value} {T : TypeId} {row : Option Nat} (h : Own1 W b vs T) (hg : W.grownBy W' row) (ne : some b ≠ row) : Own1 W' b vs T := (hg.block b h.lt ne).trans h
theorem Own1.below {W W' : World} {b : Nat} {vs : List Value} {T : TypeId} (h : Own1 W b vs T) (hb : Below W.heap.size W W') : Own1 W' b vs T := (hb.block b h.lt).trans h
theorem xU {W W' : World} (hb : Below W.heap.size W W') (row : Option Nat) : W.grownBy W' row := ⟨hb.os, hb.tape, hb.output, hb.size, fun k hk _ => hb.block k hk⟩
theorem qF {A B C : World} {row : Option Nat} (h : A.grownBy B row) (k : B.grownBy C row) : A.grownBy C row :=
 ⟨k.os.trans h.os, k.tape.trans h.tape, k.output.trans h.output, Nat.le_trans h.size k.size, fun j hj ne => (k.block j (Nat.lt_of_lt_of_le hj h.size) ne).trans (h.block j hj ne)⟩
def KeepT (W W' : World) : Prop := ∀ (k : Nat) (arr : Array Value) (fl : Nat × Nat), W.heap[k]? = some (Obj.cells arr 58 fl) -> W'.heap[k]? = W.heap[k]?
theorem KeepT.trans {A B C : World} (h : KeepT A B) (k : KeepT B C) : KeepT A C := fun j arr fl hj => (k j arr fl ((h j arr fl hj).trans hj)).trans (h j arr fl hj)
theorem KeepT.below {W W' : World} (hb : Below W.heap.size W W') : KeepT W W' := fun k arr fl hk => hb.block k (Array.getElem?_eq_some_iff.1 hk).1
theorem KeepT.grown {W W' : World} {row : Option Nat} (hg : W.grownBy W' row) (hr : ∀ b, row = some b -> ∀ arr fl, W.heap[b]? ≠ some (.cells arr 58 fl)) : KeepT W W' := fun k arr fl hk =>
 hg.block k (Array.getElem?_eq_some_iff.1 hk).1 (fun e => hr k e.symm arr fl hk)
theorem KeepT.set {W : World} {b i : Nat} {vs : List Value} {T : TypeId} {y : Value} (h : Own1 W b vs T) (ne : T ≠ 58) : KeepT W (W.setCell ⟨b, i, none⟩ y) :=
 KeepT.grown (qe W ⟨b, i, none⟩ y) (fun b' e arr fl hk => by
  cases e
  unfold Own1 at h
  rw [h] at hk
  cases hk
  exact ne rfl)
theorem KeepT.sees {W W' : World} (h : KeepT W W') {g : Nat} {arr : Array Value} {fl : Nat × Nat} (hg : W.heap[g]? = some (.cells arr 58 fl)) {B : Nat} {xs : List Value} (S : Sees W B (some ⟨g, 0, none⟩) xs) : Sees W' B (some ⟨g, 0, none⟩) xs := fun hne => by
 obtain ⟨ad, e, hb, hc⟩ := S hne
 cases e
 refine ⟨_, rfl, hb, fun j u hj => ?_⟩
 have e : W'.cell? (({ block := g, off := 0 } : Addr).add j) = W.cell? (({ block := g, off := 0 } : Addr).add j) := World.cell?_of_block (by rw [zg]; exact h g arr fl hg)
 rw [e]
 exact hc j u hj
theorem JG (a b : ByteArray) : Lib.strCells (a ++ b) = Lib.strCells a ++ Lib.strCells b := by
 unfold Lib.strCells
 rw [ByteArray.data_append, Array.toList_append, List.map_append]
structure Fix where
 w0 : World
 b : Nat
 p : Nat
 r : Nat
 d : Int
 LW : Int
 LH : Int
 LA : Option Addr
 Ln : Nat
 Lc : Nat
 LX : Int
 LY : Int
 Ls : Bool
 R : Scr
 RA : Option Addr
 Rc : Nat
def Fix.o (F : Fix) : Nat := F.w0.heap.size
def Fix.wri (F : Fix) (told : Bool) (t : Tel) (shn : Bool) : List Value := wriV F.d told F.LW F.LH F.LA F.Ln F.Lc F.LX F.LY F.Ls t shn
structure FixOk (F : Fix) : Prop where
 pb : F.p ≠ F.b
 rb : F.r ≠ F.b
 bo : F.b < F.w0.heap.size
 env : EnvD F.w0
 nb : F.b ≠ 1 /\ F.b ≠ 0 /\ F.b ≠ 2
 bp : Own1 F.w0 F.p [.pointer (some ⟨F.b, 0, none⟩)] 63
 br : Own1 F.w0 F.r [.int .i64 F.R.w, .int .i64 F.R.h, .slice F.RA F.R.cells.length F.Rc, .int .i64 F.R.x, .int .i64 F.R.y, .bool F.R.shown] 24
structure FrSt (F : Fix) (told : Bool) (t : Tel) (shn : Bool) (W : World) : Prop where
 ok : FixOk F
 bw : Own1 W F.b (F.wri told t shn) 86
 bs : Own1 W (F.o + 1) [.func (.func 45) #[] #[.pointer (some ⟨F.o, 0, none⟩), .pointer (some ⟨F.p, 0, none⟩)]] 87
 bm : Own1 W (F.o + 2) [.func (.func 46) #[] #[.pointer (some ⟨F.o + 1, 0, none⟩), .pointer (some ⟨F.p, 0, none⟩)]] 71
 bo : ∃ v, Boxed W F.o 66 v /\ W.ownsRow (F.o + 3) 5 1 v t.out.size (Lib.strCells t.out)
 gr : F.w0.grownBy W (some F.b)
theorem FrSt.below {F : Fix} {told : Bool} {t : Tel} {shn : Bool} {W W' : World} (h : FrSt F told t shn W) (hb : Below W.heap.size W W') : FrSt F told t shn W' := by
 obtain ⟨v, h1, h2⟩ := h.bo
 exact ⟨h.ok, h.bw.below hb, h.bs.below hb, h.bm.below hb, ⟨v, (hb.block F.o h1.lt).trans h1, zF h2 hb⟩, qF h.gr (xU hb _)⟩
theorem FrSt.bp {F : Fix} {told : Bool} {t : Tel} {shn : Bool} {W : World} (h : FrSt F told t shn W) : Own1 W F.p [.pointer (some ⟨F.b, 0, none⟩)] 63 := h.ok.bp.of_grown h.gr (fun e => h.ok.pb (Option.some.inj e))
theorem FrSt.br {F : Fix} {told : Bool} {t : Tel} {shn : Bool} {W : World} (h : FrSt F told t shn W) : Own1 W F.r [.int .i64 F.R.w, .int .i64 F.R.h, .slice F.RA F.R.cells.length F.Rc, .int .i64 F.R.x, .int .i64 F.R.y, .bool F.R.shown] 24 := h.ok.br.of_grown h.gr (fun e => h.ok.rb (Option.some.inj e))
theorem FrSt.sz {F : Fix} {told : Bool} {t : Tel} {shn : Bool} {W : World} (h : FrSt F told t shn W) : F.o + 3 <= W.heap.size := h.bm.lt
theorem EnvD.grown {w w' : World} {b : Nat} (h : EnvD w) (hg : w.grownBy w' (some b)) (n1 : b ≠ 1) (n2 : b ≠ 0) (n3 : b ≠ 2) : EnvD w' where
 st := ⟨fun k hk => (World.cell?_of_block (hg.block _ (block_lt_of_cell (h.st.on k hk)) (fun e => n1 (Option.some.inj e).symm))).trans (h.st.on k hk), fun k hk => (World.cell?_of_block (hg.block _ (block_lt_of_cell (h.st.off k hk)) (fun e => n2 (Option.some.inj e).symm))).trans (h.st.off k hk)⟩
 tab := by
  have t := h.tab
  unfold Lib.TabIs World.var? at t ⊢
  have gn : Tryz.prog.globalNamed "internal/strconv.uint64pow10" = some 2 := by kernel_rfl
  simp only [gn, Option.bind_some] at t ⊢
  rw [hg.block _ h.pg (fun e => n3 (Option.some.inj e).symm)]
  exact t
 pg := Nat.lt_of_lt_of_le h.pg hg.size
theorem FrSt.env {F : Fix} {told : Bool} {t : Tel} {shn : Bool} {W : World} (h : FrSt F told t shn W) : EnvD W := h.ok.env.grown h.gr h.ok.nb.1 h.ok.nb.2.1 h.ok.nb.2.2
theorem FrSt.setW {F : Fix} {told told' : Bool} {t t' : Tel} {shn shn' : Bool} {W : World} (h : FrSt F told t shn W) (i : Nat) (y : Value) (e : (F.wri told t shn).set i y = F.wri told' t' shn') (eo : t'.out = t.out) : FrSt F told' t' shn' (W.setCell ⟨F.b, i, none⟩ y) /\ KeepT W (W.setCell ⟨F.b, i, none⟩ y) := by
 have g := qe W ⟨F.b, i, none⟩ y
 have bo := h.ok.bo
 have s := h.sz
 obtain ⟨v, h1, h2⟩ := h.bo
 refine ⟨⟨h.ok, by rw [<- e]; exact h.bw.set i y, h.bs.of_grown g (fun q => ?_), h.bm.of_grown g (fun q => ?_), ⟨v, h1.kept g (fun q => ?_), ?_⟩, qF h.gr g⟩, KeepT.set h.bw (by decide)⟩
 ·have := Option.some.inj q; simp only [Fix.o] at this; omega
 ·have := Option.some.inj q; simp only [Fix.o] at this; omega
 ·have := Option.some.inj q; simp only [Fix.o] at this; omega
 ·rw [eo]
  refine h2.kept g ?_
  rcases h2.2 with ⟨rfl, _⟩ | ⟨g', cap, cur, rfl, hb, _⟩
  ·exact Or.inl rfl
  ·refine Or.inr (fun q => ?_)
   have := Option.some.inj q
   simp only [Fix.o] at *
   omega
theorem FrSt.added {F : Fix} {told : Bool} {t : Tel} {shn : Bool} {W w1 : World} {v v' : Value} {s : ByteArray} (h : FrSt F told t shn W) (hv : Boxed W F.o 66 v) (hr : W.ownsRow (F.o + 3) 5 1 v t.out.size (Lib.strCells t.out))
  (hown : w1.ownsRow (F.o + 3) 5 1 v' (t.out.size + s.size) (Lib.strCells t.out ++ Lib.strCells s)) (hg : W.grownBy w1 v.ownBlock) :
  Boxed w1 F.o 66 v /\ FrSt F told ⟨t.place, t.x, t.y, t.st, t.text, t.out ++ s⟩ shn (w1.setCell ⟨F.o, 0, none⟩ v') /\ KeepT W (w1.setCell ⟨F.o, 0, none⟩ v') := by
 have g := qe w1 ⟨F.o, 0, none⟩ v'
 have bo := h.ok.bo
 have hsz := h.sz
 have vb : ∀ k, v.ownBlock = some k -> F.o + 3 <= k := fun k e => (hr.lt k e).1
 have nb : ∀ k, k < F.o + 3 -> some k ≠ v.ownBlock := fun k hk e => by have := vb k e.symm; omega
 have hv1 := hv.kept hg (nb F.o (by omega))
 have so : F.o = F.w0.heap.size := rfl
 have step : ∀ k, k ≠ F.o -> k < F.o + 3 -> k < W.heap.size -> (w1.setCell ⟨F.o, 0, none⟩ v').heap[k]? = W.heap[k]? := fun k h1 h2 h3 =>
  (g.block k (Nat.lt_of_lt_of_le h3 hg.size) (fun q => h1 (Option.some.inj q))).trans (hg.block k h3 (nb k h2))
 refine ⟨hv1, ⟨h.ok, (step F.b (by omega) (by omega) h.bw.lt).trans h.bw, (step _ (by omega) (by omega) h.bs.lt).trans h.bs, (step _ (by omega) (by omega) h.bm.lt).trans h.bm, ⟨v', hv1.set v', ?_⟩, ?_⟩, ?_⟩
 ·show (w1.setCell ⟨F.o, 0, none⟩ v').ownsRow (F.o + 3) 5 1 v' (t.out ++ s).size (Lib.strCells (t.out ++ s))
  rw [ByteArray.size_append, JG]
  refine hown.kept g ?_
  rcases hown.2 with ⟨rfl, _⟩ | ⟨g', cap, cur, rfl, hb, _⟩
  ·exact Or.inl rfl
  ·refine Or.inr (fun q => ?_)
   have := Option.some.inj q
   simp only at this
   omega
 ·refine ⟨g.os.trans (hg.os.trans h.gr.os), g.tape.trans (hg.tape.trans h.gr.tape), g.output.trans (hg.output.trans h.gr.output), Nat.le_trans h.gr.size (Nat.le_trans hg.size g.size), fun k hk ne => ?_⟩
  exact (step k (by omega) (by omega) (Nat.lt_of_lt_of_le hk h.gr.size)).trans (h.gr.block k hk ne)
 ·refine KeepT.trans (KeepT.grown hg (fun k e arr fl hk => ?_)) (KeepT.grown g (fun k e arr fl hk => ?_))
  ·rcases hr.2 with ⟨rfl, _⟩ | ⟨g', cap, cur, rfl, _, hgb, _⟩
   ·cases e
   ·cases e
    rw [hgb] at hk
    cases hk
  ·cases e
   rw [show w1.heap[F.o]? = _ from hv1] at hk
   cases hk
set_option maxHeartbeats 8000000 in
set_option maxRecDepth 100000 in
theorem xq (F : Fix) (told : Bool) (t : Tel) (shn : Bool) (W : World) (h : FrSt F told t shn W) (s : ByteArray) (hs : t.out.size + s.size <= 100000000000000) :
  Calls Tryz.prog 45 #[.string s, .pointer (some ⟨F.o, 0, none⟩), .pointer (some ⟨F.p, 0, none⟩)] W fun e W' => (∃ v, e = .returned v) /\ FrSt F told (seqT t s) shn W' /\ KeepT W W' := by
 obtain ⟨i0, hi0, hz0, hz1, hz2⟩ := info_parts infoB
 obtain ⟨v, hv, hr⟩ := h.bo
 have cO := hv.cell
 have sz := h.sz
 have H := Xk h
 clear h
 go_enter Tryz.func45, Tryz.ntmps45
 go_wp2_with (at_builtin; refine Lib.wpList_append_own_string _ rfl (.tmp 4) (.tmp 5) 66 9 rfl (F.o + 3) 5 i0 Tryz.underlying66 Tryz.underlying9 hi0 hz0 hz1 hz2 _ _ _ rfl hr s rfl (by unfold maxLen; omega) (by omega) sz ?_; intro v' w1 hown' hgrow _; obtain ⟨A, c, rfl⟩ := jb hown'; obtain ⟨hv1, hf, hk⟩ := H.out.added hv hr hown' hgrow; have c1 := hv1.cell; have f1 := hv1.frozen; have pp := hf.bp.blk.c 0 _ rfl; have b15 := hf.bw.blk.c 15 _ rfl; have q15 := hf.bw.blk.f 15 _ rfl)
 go_end0
 obtain ⟨h1, h2⟩ := hf.setW (told' := told) (t' := seqT t s) (shn' := shn) 15 (.string zB) rfl rfl
 exact ⟨⟨_, rfl⟩, h1, hk.trans h2⟩
set_option maxHeartbeats 8000000 in
set_option maxRecDepth 100000 in
theorem f_move (F : Fix) (told : Bool) (t : Tel) (shn : Bool) (W : World) (h : FrSt F told t shn W) (x y : Int) (x0 : -10000000 <= x) (x1 : x <= 10000000) (y0 : -10000000 <= y) (y1 : y <= 10000000) (hs : t.out.size <= 90000000000000) :
  Calls Tryz.prog 46 #[.int .i64 x, .int .i64 y, .pointer (some ⟨F.o + 1, 0, none⟩), .pointer (some ⟨F.p, 0, none⟩)] W fun e W' => (∃ v, e = .returned v) /\ FrSt F told (jE t x y) shn W' /\ KeepT W W' := by
 have IY : Hid (∀ d os, Calls Tryz.prog 47 #[.int .i64 (y + 1)] (grow (redrawn W d) os) fun e w' => e = .returned (.string (itB (y + 1))) /\ zL (grow (redrawn W d) os) w') := Xk (fun d os => js (kJ (y + 1) (by omega) (by omega) _ (h.env.of_below (below_regrown W d os) Xm)))
 have IX : Hid (∀ d os, Calls Tryz.prog 47 #[.int .i64 (x + 1)] (grow (redrawn W d) os) fun e w' => e = .returned (.string (itB (x + 1))) /\ zL (grow (redrawn W d) os) w') := Xk (fun d os => js (kJ (x + 1) (by omega) (by omega) _ (h.env.of_below (below_regrown W d os) Xm)))
 have sy := jX (y + 1) (by omega) (by omega)
 have sx := jX (x + 1) (by omega) (by omega)
 have MB : Hid (qM x y = (((⟨#[27, 91]⟩ ++ itB (y + 1)) ++ ⟨#[59]⟩) ++ itB (x + 1)) ++ ⟨#[72]⟩) := Xk rfl
 generalize itB (y + 1) = a at *
 generalize itB (x + 1) = b at *
 have n1 : (9223372036854775807 < 2 + a.size) = False := eq_false (by omega)
 have n2 : (9223372036854775807 < 2 + a.size + 1) = False := eq_false (by omega)
 have n3 : (9223372036854775807 < 2 + a.size + 1 + b.size) = False := eq_false (by omega)
 have n4 : (9223372036854775807 < 2 + a.size + 1 + b.size + 1) = False := eq_false (by omega)
 have MS : Hid ((qM x y).size <= 100) := Xk (by
  rw [MB.out, ByteArray.size_append, ByteArray.size_append, ByteArray.size_append, ByteArray.size_append]
  have : (⟨#[27, 91]⟩ : ByteArray).size = 2 := rfl
  have : (⟨#[59]⟩ : ByteArray).size = 1 := rfl
  have : (⟨#[72]⟩ : ByteArray).size = 1 := rfl
  omega)
 have wy := Xl (y + 1) (by omega)
 have wx := Xl (x + 1) (by omega)
 have g6 := fun d os => (h.bs.blk.regrown d os).c 0 _ rfl
 have H := Xk h
 clear h
 go_enter Tryz.func46, Tryz.ntmps46
 go_wp2_with fail
 refine zo 11 [] [] (by kernel_rfl) (by kernel_rfl) (by kernel_rfl) (by intro t ht; cases ht) ?_
 simp only [Xn, Xo, Xp, Xq]
 repeat (refine zf (by rfl) (fun K hK => ?_); go_simp; first | (refine hK _ ?_; clear hK K) | (apply Exists.intro; refine ⟨fun _ => ?_, hK _ ?_⟩; (first | with_reducible exact IY.out _ _ | with_reducible exact IX.out _ _); clear hK K))
 refine zn ?_
 intro W5 vs5 hl hv
 have hb5 := zj.1 hl
 have H5 := Xk (H.out.below hb5)
 have K5 := Xk (KeepT.below hb5)
 clear hl hv hb5 g6 n1 n2 n3 n4
 simp only [ze]
 go_wp2_with fail
 rw [<- MB.out]
 refine (xq F told t shn W5 H5.out (qM x y) (by have := MS.out; omega)).mono ?_; rintro e W6 ⟨⟨v, rfl⟩, h6, k6⟩
 have H6 := Xk h6
 have K6 := Xk (K5.out.trans k6)
 clear h6 k6
 go_wp2_with fail
 have pc := H6.out.bp.blk.c 0 _ rfl
 have b9 := H6.out.bw.blk.c 9 _ rfl
 have q9 := H6.out.bw.blk.f 9 _ rfl
 have b10 := H6.out.bw.blk.c 10 _ rfl
 have q10 := H6.out.bw.blk.f 10 _ rfl
 have b8 := H6.out.bw.blk.c 8 _ rfl
 have q8 := H6.out.bw.blk.f 8 _ rfl
 have pb := H6.out.ok.pb
 have pb2 : F.b ≠ F.p := fun e => pb e.symm
 go_region
 go_wp2_with fail
 go_end0
 obtain ⟨a1, k1⟩ := H6.out.setW (told' := told) (t' := ⟨t.place, x, t.y, t.st, zB, t.out ++ qM x y⟩) (shn' := shn) 9 (.int .i64 x) rfl rfl
 obtain ⟨a2, k2⟩ := a1.setW (told' := told) (t' := ⟨t.place, x, y, t.st, zB, t.out ++ qM x y⟩) (shn' := shn) 10 (.int .i64 y) rfl rfl
 obtain ⟨a3, k3⟩ := a2.setW (told' := told) (t' := jE t x y) (shn' := shn) 8 (.bool true) rfl rfl
 have dr : ∀ X : World, Below X.heap.size X X.drew := fun X => (Below.refl _ X).drew
 exact ⟨⟨_, rfl⟩, a3.below (dr _), (((K6.out.trans k1).trans k2).trans k3).trans (KeepT.below (dr _))⟩
end
section
open Go Go.RowKit Go.Sort
def ownS (B : Nat) (vs : List Value) (T : TypeId) : Spec := ⟨fun v w => ∃ g, v = .pointer (some ⟨g, 0, none⟩) /\ B <= g /\ Own1 w g vs T, fun v w w' hb ⟨g, e, h1, h2⟩ => ⟨g, e, h1, h2.below hb⟩⟩
theorem born_own {P : Program} {w : World} {B g : Nat} {vs : List Value} {T : TypeId} (e : g = w.heap.size) (hB : B <= w.heap.size) : qQ P w (fun v w => ∃ g, v = .pointer (some ⟨g, 0, none⟩) /\ B <= g /\ Own1 w g vs T) (.ok (.value (.pointer (some ⟨g, 0, none⟩))) (w.alloc (.cells vs.toArray T))) := by
 subst e
 exact ⟨(Below.refl _ _).alloc Xm _, _, rfl, hB, World.alloc_heap_new w _⟩
theorem KeepT.own {W W' : World} (h : KeepT W W') {g : Nat} {vs : List Value} (k : Own1 W g vs 58) : Own1 W' g vs 58 := (h g _ _ k).trans k
theorem sz2 : (⟨#[27, 91]⟩ : ByteArray).size = 2 := rfl
theorem sz1 (b : UInt8) : (⟨#[b]⟩ : ByteArray).size = 1 := rfl
theorem kV (x y : Int) (x0 : -10000000 <= x) (x1 : x <= 10000000) (y0 : -10000000 <= y) (y1 : y <= 10000000) : (qM x y).size <= 100 := by
 have a := jX (y + 1) (by omega) (by omega)
 have b := jX (x + 1) (by omega) (by omega)
 unfold qM
 rw [ByteArray.size_append, ByteArray.size_append, ByteArray.size_append, ByteArray.size_append, sz2, sz1, sz1]
 omega
theorem Z8 (f t : Sty) : (qw f t).size <= 500 := by
 have a := ZP (qn f t) (kK f t) (qn f t).length Xm
 rw [List.take_length] at a
 have b := vT f t
 unfold qw
 split
 ·exact Nat.zero_le _
 ·rw [ByteArray.size_append, ByteArray.size_append, sz2, sz1]
  omega
set_option maxHeartbeats 16000000 in
set_option maxRecDepth 100000 in
theorem f_unit (F : Fix) (told : Bool) (t : Tel) (shn : Bool) (W : World) (h : FrSt F told t shn W) (i n : Nat) (c : Cel) (hn : n = 1 \/ n = 2) (hi : i < F.R.cells.length) (hc : F.R.cells[i] = c) (hN : F.R.cells.length <= 1048576) (w0 : 1 <= F.R.w) (w1 : F.R.w <= 4096)
  (S : Sees W W.heap.size F.RA (zc F.R.cells)) (htx : t.text.size + c.text.size <= 1000000000000) (ho : t.out.size <= 70000000000000) (x0 : -10000000 <= t.x) (x1 : t.x <= 10000000) :
  Calls Tryz.prog 49 #[.int .i64 i, .int .i64 n, .pointer (some ⟨F.r, 0, none⟩), .pointer (some ⟨F.p, 0, none⟩), .pointer (some ⟨F.o + 2, 0, none⟩), .pointer (some ⟨F.o + 1, 0, none⟩), .pointer (some ⟨F.o, 0, none⟩)] W fun e W' => (∃ v, e = .returned v) /\ FrSt F told (qD F.R.w t i n c) shn W' /\ KeepT W W' := by
 obtain ⟨i0, hi0, hz0, hz1, hz2⟩ := info_parts infoB
 obtain ⟨ad, hRA, ab, z0, z1, z2, z3, z4⟩ := jc S i hi
 rw [hc] at z0 z1 z2 z3 z4
 have UT : Hid (qD F.R.w t i n c = put1 (qZ (qV t ((i : Int) % F.R.w) ((i : Int) / F.R.w) c.st c.text) (qw t.st c.st)) F.R.w n c) := Xk rfl
 have GO : Hid (goB t ((i : Int) % F.R.w) ((i : Int) / F.R.w) c.st c.text = (!t.place || decide (t.x ≠ (i : Int) % F.R.w) || decide (t.y ≠ (i : Int) / F.R.w) || (decide (qw t.st c.st = zB) && decide (t.text ≠ zB) && jC t.text c.text))) := Xk rfl
 have M1 : Hid (qV t ((i : Int) % F.R.w) ((i : Int) / F.R.w) c.st c.text = if goB t ((i : Int) % F.R.w) ((i : Int) / F.R.w) c.st c.text = true then jE t ((i : Int) % F.R.w) ((i : Int) / F.R.w) else t) := Xk rfl
 have US := Xk (Z8 t.st c.st)
 have JO := Xk (fun W' => d_Joins t.text c.text htx W')
 have TU := Xk (fun W' (hE : EnvD W') => d_turned t.st c.st W' hE)
 have X0 : 0 <= (i : Int) % F.R.w := Int.emod_nonneg _ (by omega)
 have X1 : (i : Int) % F.R.w < F.R.w := Int.emod_lt_of_pos _ (by omega)
 have Y0 : 0 <= (i : Int) / F.R.w := Int.ediv_nonneg (by omega) (by omega)
 have Y1 : (i : Int) / F.R.w <= (i : Int) := Int.ediv_le_self _ (by omega)
 have wnz : ¬ F.R.w = 0 := by omega
 have tm : Int.tmod (i : Int) F.R.w = (i : Int) % F.R.w := Int.tmod_eq_emod_of_nonneg (by omega)
 have wd := Xl ((i : Int) / F.R.w) (by omega)
 have H := Xk h
 have g0 := fun d os => (h.br.blk.regrown d os).c 0 _ rfl
 have g2 := fun d os => (h.br.blk.regrown d os).c 2 _ rfl
 rw [hRA] at g2
 have z0 := fun d os => ((below_regrown W d os).cell (p := ad.add (i * 5)) (by simp only [zg]; exact ab)).trans z0
 have z1 := fun d os => ((below_regrown W d os).cell (p := ⟨(ad.add (i * 5)).block, (ad.add (i * 5)).off + 1, none⟩) (by simp only [zg]; exact ab)).trans z1
 have z2 := fun d os => ((below_regrown W d os).cell (p := ⟨(ad.add (i * 5)).block, (ad.add (i * 5)).off + 2, none⟩) (by simp only [zg]; exact ab)).trans z2
 have z3 := fun d os => ((below_regrown W d os).cell (p := ⟨(ad.add (i * 5)).block, (ad.add (i * 5)).off + 3, none⟩) (by simp only [zg]; exact ab)).trans z3
 have z4 := fun d os => ((below_regrown W d os).cell (p := ⟨(ad.add (i * 5)).block, (ad.add (i * 5)).off + 4, none⟩) (by simp only [zg]; exact ab)).trans z4
 have ii : (i : Int) < (F.R.cells.length : Int) := by omega
 clear h S hc
 go_enter Tryz.func49, Tryz.ntmps49
 go_wp2_with fail
 refine zo 16 [(11, ownS W.heap.size [.string ⟨#[]⟩, .int .i8 0, .int .i32 0, .int .i32 0, .int .u8 0] 58)] [11] (by kernel_rfl) (by kernel_rfl) (by kernel_rfl) (by intro t ht; simp at ht; subst ht; intro h; cases h) ?_
 simp only [Xn, Xo, Xp, Xq]
 repeat (refine zf (by rfl) (fun K hK => ?_); go_simp; first | (refine hK _ ?_; clear hK K) | (apply Exists.intro; refine ⟨fun _ => ?_, hK _ ?_⟩; (fail); clear hK K))
 refine vC 11 rfl (by simp) (by first | (simp; done) | simp [jK]) (by rfl) (by rfl) (by intro _ _ h; cases h) (fun x => ?_) ?_
 ·go_simp
  exact born_own (by simp [grow, redrawn]) (by simp [grow, redrawn])
 repeat (refine zf (by rfl) (fun K hK => ?_); go_simp; first | (refine hK _ ?_; clear hK K) | (apply Exists.intro; refine ⟨fun _ => ?_, hK _ ?_⟩; (fail); clear hK K))
 refine zn ?_
 intro W1 vs1 hl hv
 obtain ⟨g, e11, lg, og⟩ := hv 11 (by simp) rfl
 have hb1 := zj.1 hl
 have H1 := Xk (H.out.below hb1)
 have K1 := Xk (KeepT.below hb1)
 have OG := Xk ((((((og.set 0 (.string c.text)).set 1 (.int .i8 c.wide)).set 2 (.int .i32 c.st.fg)).set 3 (.int .i32 c.st.bg)).set 4 (.int .u8 (bI c.st.at_))))
 simp only [ze, e11]
 have s0 := og.blk.c 0 _ rfl
 have s1 := og.blk.c 1 _ rfl
 have s2 := og.blk.c 2 _ rfl
 have s3 := og.blk.c 3 _ rfl
 have s4 := og.blk.c 4 _ rfl
 have q0 := og.blk.f 0 _ rfl
 have q1 := og.blk.f 1 _ rfl
 have q2 := og.blk.f 2 _ rfl
 have q3 := og.blk.f 3 _ rfl
 have q4 := og.blk.f 4 _ rfl
 have HG := Xk hb1
 clear hl hv hb1 og g0 g2 z0 z1 z2 z3 z4 e11
 go_wp2_with fail
 obtain ⟨V, hV⟩ : ∃ V, V = ((((W1.setCell ⟨g, 0, none⟩ (.string c.text)).setCell ⟨g, 1, none⟩ (.int .i8 c.wide)).setCell ⟨g, 2, none⟩ (.int .i32 c.st.fg)).setCell ⟨g, 3, none⟩ (.int .i32 c.st.bg)).setCell ⟨g, 4, none⟩ (.int .u8 (bI c.st.at_)) := ⟨_, rfl⟩
 rw [<- hV] at OG ⊢
 have BV : Below W.heap.size W V := by rw [hV]; exact ((((HG.out.setCell (p := ⟨g, 0, none⟩) lg _).setCell (p := ⟨g, 1, none⟩) lg _).setCell (p := ⟨g, 2, none⟩) lg _).setCell (p := ⟨g, 3, none⟩) lg _).setCell (p := ⟨g, 4, none⟩) lg _
 have HV := Xk (H.out.below BV)
 have KV := Xk (KeepT.below BV)
 have OG : Hid (Own1 V g [.string c.text, .int .i8 c.wide, .int .i32 c.st.fg, .int .i32 c.st.bg, .int .u8 (bI c.st.at_)] 58) := OG
 clear hV BV HG K1 H1 s0 s1 s2 s3 s4 q0 q1 q2 q3 q4
 have TU2 : Hid (∀ d os, Calls Tryz.prog 50 #[styV t.st.fg t.st.bg t.st.at_, styV c.st.fg c.st.bg c.st.at_] (grow (redrawn V d) os) fun e w' => e = .returned (.string (qw t.st c.st)) /\ zL (grow (redrawn V d) os) w') := Xk (fun d os => js (TU.out _ (HV.out.env.of_below (below_regrown V d os) Xm)))
 have gp := fun d os => (HV.out.bp.blk.regrown d os).c 0 _ rfl
 have gb11 := fun d os => (HV.out.bw.blk.regrown d os).c 11 _ rfl
 have gb12 := fun d os => (HV.out.bw.blk.regrown d os).c 12 _ rfl
 have gb13 := fun d os => (HV.out.bw.blk.regrown d os).c 13 _ rfl
 have gs2 := fun d os => (OG.out.blk.regrown d os).c 2 _ rfl
 have gs3 := fun d os => (OG.out.blk.regrown d os).c 3 _ rfl
 have gs4 := fun d os => (OG.out.blk.regrown d os).c 4 _ rfl
 refine zo 7 [] [] (by kernel_rfl) (by kernel_rfl) (by kernel_rfl) (by intro t ht; cases ht) ?_
 simp only [Xn, Xo, Xp, Xq]
 repeat (refine zf (by rfl) (fun K hK => ?_); go_simp; first | (refine hK _ ?_; clear hK K) | (apply Exists.intro; refine ⟨fun _ => ?_, hK _ ?_⟩; (with_reducible exact TU2.out _ _); clear hK K))
 refine zn ?_
 intro V2 vs2 hl hv
 have hb2 := zj.1 hl
 have HV := Xk (HV.out.below hb2)
 have KV := Xk (KV.out.trans (KeepT.below hb2))
 have OG := Xk (OG.out.below hb2)
 clear hl hv hb2 gp gb11 gb12 gb13 gs2 gs3 gs4 TU2
 simp only [ze]
 go_upto_region 2 with fail
 generalize qw t.st c.st = u at *
 have JO2 : Hid (∀ d os, Calls Tryz.prog 51 #[.string t.text, .string c.text] (grow (redrawn V2 d) os) fun e w' => e = .returned (.bool (jC t.text c.text)) /\ zL (grow (redrawn V2 d) os) w') := Xk (fun d os => js (JO.out _))
 generalize jC t.text c.text = j at *
 generalize goB t ((i : Int) % F.R.w) ((i : Int) / F.R.w) c.st c.text = G at *
 generalize hXX : (i : Int) % F.R.w = X at *
 generalize hYY : (i : Int) / F.R.w = Y at *
 have HXX := Xk hXX
 have HYY := Xk hYY
 have Y2 : Y <= 1048576 := by omega
 clear hXX hYY Y1
 have gp := fun d os => (HV.out.bp.blk.regrown d os).c 0 _ rfl
 have gb8 := fun d os => (HV.out.bw.blk.regrown d os).c 8 _ rfl
 have gb9 := fun d os => (HV.out.bw.blk.regrown d os).c 9 _ rfl
 have gb10 := fun d os => (HV.out.bw.blk.regrown d os).c 10 _ rfl
 have gb15 := fun d os => (HV.out.bw.blk.regrown d os).c 15 _ rfl
 have gs0 := fun d os => (OG.out.blk.regrown d os).c 0 _ rfl
 go_cut [73] from 33 to 73 (fun s73 wx => s73 = .bool G /\ Hid (Below V2.heap.size V2 wx))
 case first =>
  --Q(
  cases ep : t.place with
  | false =>
   have RG : Hid (G = true) := Xk (by rw [GO.out, ep]; rfl)
   rw [ep] at gb8
   refine zo 40 [] [] (by kernel_rfl) (by kernel_rfl) (by kernel_rfl) (by intro t ht; cases ht) ?_
   simp only [Xn, Xo, Xp, Xq]
   repeat (refine zf (by rfl) (fun K hK => ?_); go_simp; first | (refine hK _ ?_; clear hK K) | (apply Exists.intro; refine ⟨fun _ => ?_, hK _ ?_⟩; (with_reducible exact JO2.out _ _); clear hK K))
   refine zn ?_
   intro W8 vs8 hl hv
   have hb8 := Xk (zj.1 hl)
   clear hl hv
   simp only [ze]
   go_wp2_with fail
   go_meet
   exact ⟨by rw [RG.out], hb8⟩
  | true =>
   rw [ep] at gb8
   by_cases ex : t.x = X
   ·have fx : (t.x != X) = false := by rw [ex]; simp
    by_cases ey : t.y = Y
    ·have fy : (t.y != Y) = false := by rw [ey]; simp
     by_cases eu : u = zB
     ·have fu := xk eu
      by_cases et : t.text = zB
      ·have ft := xk et
       have RG : Hid (G = false) := Xk (by rw [GO.out, ep, ex, ey, et]; simp)
       have HU := Xk eu
       have HT := Xk et
       clear eu et ex ey ep
       refine zo 40 [] [] (by kernel_rfl) (by kernel_rfl) (by kernel_rfl) (by intro t ht; cases ht) ?_
       simp only [Xn, Xo, Xp, Xq]
       repeat (refine zf (by rfl) (fun K hK => ?_); go_simp; first | (refine hK _ ?_; clear hK K) | (apply Exists.intro; refine ⟨fun _ => ?_, hK _ ?_⟩; (with_reducible exact JO2.out _ _); clear hK K))
       refine zn ?_
       intro W8 vs8 hl hv
       have hb8 := Xk (zj.1 hl)
       clear hl hv
       simp only [ze]
       go_wp2_with fail
       go_meet
       exact ⟨by rw [RG.out], hb8⟩
      ·have ft := xm et
       have RG : Hid (G = j) := Xk (by rw [GO.out, ep, ex, ey, eu]; simp [et])
       have HU := Xk eu
       have HT := Xk et
       clear eu et ex ey ep
       refine zo 40 [] [] (by kernel_rfl) (by kernel_rfl) (by kernel_rfl) (by intro t ht; cases ht) ?_
       simp only [Xn, Xo, Xp, Xq]
       repeat (refine zf (by rfl) (fun K hK => ?_); go_simp; first | (refine hK _ ?_; clear hK K) | (apply Exists.intro; refine ⟨fun _ => ?_, hK _ ?_⟩; (with_reducible exact JO2.out _ _); clear hK K))
       refine zn ?_
       intro W8 vs8 hl hv
       have hb8 := Xk (zj.1 hl)
       clear hl hv
       simp only [ze]
       go_wp2_with fail
       go_meet
       exact ⟨by rw [RG.out], hb8⟩
     ·have fu := xm eu
      have RG : Hid (G = false) := Xk (by rw [GO.out, ep, ex, ey]; simp [eu])
      have HU := Xk eu
      clear eu ex ey ep
      refine zo 40 [] [] (by kernel_rfl) (by kernel_rfl) (by kernel_rfl) (by intro t ht; cases ht) ?_
      simp only [Xn, Xo, Xp, Xq]
      repeat (refine zf (by rfl) (fun K hK => ?_); go_simp; first | (refine hK _ ?_; clear hK K) | (apply Exists.intro; refine ⟨fun _ => ?_, hK _ ?_⟩; (with_reducible exact JO2.out _ _); clear hK K))
      refine zn ?_
      intro W8 vs8 hl hv
      have hb8 := Xk (zj.1 hl)
      clear hl hv
      simp only [ze]
      go_wp2_with fail
      go_meet
      exact ⟨by rw [RG.out], hb8⟩
    ·have fy : (t.y != Y) = true := by rw [bne_iff_ne]; exact ey
     have RG : Hid (G = true) := Xk (by rw [GO.out, ep]; simp [ey])
     clear ex ey ep
     refine zo 40 [] [] (by kernel_rfl) (by kernel_rfl) (by kernel_rfl) (by intro t ht; cases ht) ?_
     simp only [Xn, Xo, Xp, Xq]
     repeat (refine zf (by rfl) (fun K hK => ?_); go_simp; first | (refine hK _ ?_; clear hK K) | (apply Exists.intro; refine ⟨fun _ => ?_, hK _ ?_⟩; (with_reducible exact JO2.out _ _); clear hK K))
     refine zn ?_
     intro W8 vs8 hl hv
     have hb8 := Xk (zj.1 hl)
     clear hl hv
     simp only [ze]
     go_wp2_with fail
     go_meet
     exact ⟨by rw [RG.out], hb8⟩
   ·have fx : (t.x != X) = true := by rw [bne_iff_ne]; exact ex
    have RG : Hid (G = true) := Xk (by rw [GO.out, ep]; simp [ex])
    clear ex ep
    refine zo 40 [] [] (by kernel_rfl) (by kernel_rfl) (by kernel_rfl) (by intro t ht; cases ht) ?_
    simp only [Xn, Xo, Xp, Xq]
    repeat (refine zf (by rfl) (fun K hK => ?_); go_simp; first | (refine hK _ ?_; clear hK K) | (apply Exists.intro; refine ⟨fun _ => ?_, hK _ ?_⟩; (with_reducible exact JO2.out _ _); clear hK K))
    refine zn ?_
    intro W8 vs8 hl hv
    have hb8 := Xk (zj.1 hl)
    clear hl hv
    simp only [ze]
    go_wp2_with fail
    go_meet
    exact ⟨by rw [RG.out], hb8⟩
  --)Q
 case rest =>
  obtain ⟨rfl, hbc⟩ := hcut
  have HC := Xk (HV.out.below hbc.out)
  have KC := Xk (KV.out.trans (KeepT.below hbc.out))
  have OC := Xk (OG.out.below hbc.out)
  have lgb : g ≠ F.b := by
   have h1 := HV.out.ok.bo
   have h2 := H.out.sz
   simp only [Fix.o] at h2
   omega
  have XX : 0 <= X /\ X < 4096 := by omega
  have us := US.out
  clear hbc HV KV OG gp gb8 gb9 gb10 gb15 gs0 JO JO2 TU wnz tm wd
  obtain ⟨t1, ht1⟩ : ∃ t1, t1 = qV t X Y c.st c.text := ⟨_, rfl⟩
  rw [<- ht1] at M1 UT
  clear ht1
  have b1 : t1.out.size <= t.out.size + 100 /\ -10000000 <= t1.x /\ t1.x <= 10000000 := by
   rw [M1.out]
   split
   ·show (t.out ++ qM X Y).size <= _ /\ -10000000 <= X /\ X <= 10000000
    have := kV X Y (by omega) (by omega) (by omega) (by omega)
    rw [ByteArray.size_append]
    omega
   ·omega
  go_upto_if 73 with fail
  go_cut [] from 74 to 77 (fun wx => Hid (FrSt F told t1 shn wx /\ Own1 wx g [.string c.text, .int .i8 c.wide, .int .i32 c.st.fg, .int .i32 c.st.bg, .int .u8 (bI c.st.at_)] 58 /\ KeepT W wx))
  case first =>
   cases G with
   | true =>
    have M2 : Hid (t1 = jE t X Y) := Xk (by rw [M1.out, if_pos rfl])
    have gm := HC.out.bm.blk.c 0 _ rfl
    go_wp2_with fail
    refine (f_move F told t shn wc HC.out X Y (by omega) (by omega) (by omega) (by omega) (by omega)).mono ?_; rintro e w9 ⟨⟨v, rfl⟩, h9, k9⟩
    rw [<- M2.out] at h9
    have R9 := Xk (show FrSt F told t1 shn w9 /\ Own1 w9 g [.string c.text, .int .i8 c.wide, .int .i32 c.st.fg, .int .i32 c.st.bg, .int .u8 (bI c.st.at_)] 58 /\ KeepT W w9 from ⟨h9, k9.own OC.out, KC.out.trans k9⟩)
    clear h9 k9
    go_wp2_with fail
    go_meet
    exact R9
   | false =>
    have M2 : Hid (t1 = t) := Xk (by rw [M1.out, if_neg (by decide)])
    have R9 := Xk (show FrSt F told t1 shn wc /\ Own1 wc g [.string c.text, .int .i8 c.wide, .int .i32 c.st.fg, .int .i32 c.st.bg, .int .u8 (bI c.st.at_)] 58 /\ KeepT W wc from ⟨by rw [M2.out]; exact HC.out, OC.out, KC.out⟩)
    go_wp2_with fail
    go_meet
    exact R9
  case rest =>
   obtain ⟨wa, hwa⟩ : ∃ wa, wa = wc := ⟨_, rfl⟩
   rw [<- hwa] at hcut ⊢
   obtain ⟨HC, OC, KC⟩ := hcut.out
   have HC := Xk HC
   have OC := Xk OC
   have KC := Xk KC
   clear hcut hwa M1
   obtain ⟨t2, ht2⟩ : ∃ t2, t2 = qZ t1 u := ⟨_, rfl⟩
   have T2 : Hid (t2 = if u = zB then t1 else seqT t1 u) := Xk ht2
   rw [<- ht2] at UT
   clear ht2
   have b2 : t2.out.size <= t.out.size + 700 /\ t2.x = t1.x := by
    rw [T2.out]
    split
    ·omega
    ·show (t1.out ++ u).size <= _ /\ t1.x = t1.x
     rw [ByteArray.size_append]
     omega
   go_upto_if 79 with fail
   go_cut [] from 78 to 82 (fun wx => Hid (FrSt F told t2 shn wx /\ Own1 wx g [.string c.text, .int .i8 c.wide, .int .i32 c.st.fg, .int .i32 c.st.bg, .int .u8 (bI c.st.at_)] 58 /\ KeepT W wx))
   case first =>
    by_cases eu : u = zB
    ·have M2 : Hid (t2 = t1) := Xk (by rw [T2.out, if_pos eu])
     have R9 := Xk (show FrSt F told t2 shn wa /\ Own1 wa g [.string c.text, .int .i8 c.wide, .int .i32 c.st.fg, .int .i32 c.st.bg, .int .u8 (bI c.st.at_)] 58 /\ KeepT W wa from ⟨by rw [M2.out]; exact HC.out, OC.out, KC.out⟩)
     have fu := xk eu
     have HU := Xk eu
     clear eu
     try rw [fu]
     go_wp2_with fail
     go_meet
     exact R9
    ·have M2 : Hid (t2 = seqT t1 u) := Xk (by rw [T2.out, if_neg eu])
     have fu := xm eu
     have HU := Xk eu
     clear eu
     have gm := HC.out.bs.blk.c 0 _ rfl
     try rw [fu]
     go_wp2_with fail
     refine (xq F told t1 shn wa HC.out u (by omega)).mono ?_; rintro e w9 ⟨⟨v, rfl⟩, h9, k9⟩
     rw [<- M2.out] at h9
     have R9 := Xk (show FrSt F told t2 shn w9 /\ Own1 w9 g [.string c.text, .int .i8 c.wide, .int .i32 c.st.fg, .int .i32 c.st.bg, .int .u8 (bI c.st.at_)] 58 /\ KeepT W w9 from ⟨h9, k9.own OC.out, KC.out.trans k9⟩)
     clear h9 k9
     go_wp2_with fail
     go_meet
     exact R9
   case rest =>
    obtain ⟨wb, hwb⟩ : ∃ wb, wb = wc := ⟨_, rfl⟩
    rw [<- hwb] at hcut ⊢
    clear HC OC KC
    obtain ⟨hc1, oc1, kc1⟩ := hcut.out
    have HC := Xk hc1
    have OC := Xk oc1
    have KC := Xk kc1
    have pc := hc1.bp.blk.c 0 _ rfl
    have s0 := oc1.blk.c 0 _ rfl
    have s2 := oc1.blk.c 2 _ rfl
    have s3 := oc1.blk.c 3 _ rfl
    have s4 := oc1.blk.c 4 _ rfl
    have b11 := hc1.bw.blk.c 11 _ rfl
    have q11 := hc1.bw.blk.f 11 _ rfl
    have b12 := hc1.bw.blk.c 12 _ rfl
    have q12 := hc1.bw.blk.f 12 _ rfl
    have b13 := hc1.bw.blk.c 13 _ rfl
    have q13 := hc1.bw.blk.f 13 _ rfl
    have b15 := hc1.bw.blk.c 15 _ rfl
    have q15 := hc1.bw.blk.f 15 _ rfl
    have pb := hc1.ok.pb
    have pb2 : F.b ≠ F.p := fun e => pb e.symm
    have gb2 : F.b ≠ g := fun e => lgb e.symm
    clear hcut hwb T2 hc1 oc1 kc1
    go_upto_region 6 with fail
    go_region
    go_upto_region 7 with fail
    obtain ⟨V3, hV3⟩ : ∃ V3, V3 = ((((wb.setCell ⟨F.b, 11, none⟩ (.int .i32 c.st.fg)).setCell ⟨F.b, 12, none⟩ (.int .i32 c.st.bg)).setCell ⟨F.b, 13, none⟩ (.int .u8 (bI c.st.at_))).setCell ⟨F.b, 15, none⟩ (.string c.text)).drew := ⟨_, rfl⟩
    rw [<- hV3]
    have dr : ∀ X : World, Below X.heap.size X X.drew := fun X => (Below.refl _ X).drew
    have R3 : Hid (FrSt F told ⟨t2.place, t2.x, t2.y, c.st, c.text, t2.out⟩ shn V3 /\ Own1 V3 g [.string c.text, .int .i8 c.wide, .int .i32 c.st.fg, .int .i32 c.st.bg, .int .u8 (bI c.st.at_)] 58 /\ KeepT W V3) := Xk (by
     obtain ⟨a1, k1⟩ := HC.out.setW (told' := told) (t' := ⟨t2.place, t2.x, t2.y, ⟨c.st.fg, t2.st.bg, t2.st.at_⟩, t2.text, t2.out⟩) (shn' := shn) 11 (.int .i32 c.st.fg) rfl rfl
     obtain ⟨a2, k2⟩ := a1.setW (told' := told) (t' := ⟨t2.place, t2.x, t2.y, ⟨c.st.fg, c.st.bg, t2.st.at_⟩, t2.text, t2.out⟩) (shn' := shn) 12 (.int .i32 c.st.bg) rfl rfl
     obtain ⟨a3, k3⟩ := a2.setW (told' := told) (t' := ⟨t2.place, t2.x, t2.y, c.st, t2.text, t2.out⟩) (shn' := shn) 13 (.int .u8 (bI c.st.at_)) rfl rfl
     obtain ⟨a4, k4⟩ := a3.setW (told' := told) (t' := ⟨t2.place, t2.x, t2.y, c.st, c.text, t2.out⟩) (shn' := shn) 15 (.string c.text) rfl rfl
     have kk := ((k1.trans k2).trans k3).trans k4
     rw [hV3]
     exact ⟨a4.below (dr _), (kk.own OC.out).below (dr _), (KC.out.trans kk).trans (KeepT.below (dr _))⟩)
    clear hV3 HC OC KC pc s0 s2 s3 s4 b11 q11 b12 q12 b13 q13 b15 q15
    obtain ⟨h3, o3, k3⟩ := R3.out
    obtain ⟨v, hv, hr⟩ := h3.bo
    have hr : V3.ownsRow (F.o + 3) 5 1 v t2.out.size (Lib.strCells t2.out) := hr
    have cO := hv.cell
    have sz := h3.sz
    have s0 := o3.blk.c 0 _ rfl
    have H3 := Xk h3
    have K3 := Xk k3
    have O3 := Xk o3
    clear h3 o3 k3 R3
    go_wp2_with (at_builtin; refine Lib.wpList_append_own_string _ rfl (.tmp 93) (.tmp 95) 66 9 rfl (F.o + 3) 5 i0 Tryz.underlying66 Tryz.underlying9 hi0 hz0 hz1 hz2 _ _ _ rfl hr c.text rfl (by unfold maxLen; omega) (by omega) sz ?_; intro v' w1 hown' hgrow _; obtain ⟨A, c', rfl⟩ := jb hown'; obtain ⟨hv1, hf, hk⟩ := H3.out.added hv hr hown' hgrow; have c1 := hv1.cell; have f1 := hv1.frozen; have pp := hf.bp.blk.c 0 _ rfl; have b9 := hf.bw.blk.c 9 _ rfl; have q9 := hf.bw.blk.f 9 _ rfl; have H4 := Xk hf; have K4 := Xk (K3.out.trans hk))
    obtain ⟨b21, b22⟩ := b2
    obtain ⟨V5, hV5⟩ : ∃ V5, V5 = (w1.setCell ⟨F.o, 0, none⟩ (.slice A (t2.out.size + c.text.size) c')).setCell ⟨F.b, 9, none⟩ (.int .i64 (t1.x + (n : Int))) := ⟨_, rfl⟩
    rw [<- hV5]
    have R5 : Hid (FrSt F told ⟨t2.place, t1.x + (n : Int), t2.y, c.st, c.text, t2.out ++ c.text⟩ shn V5 /\ KeepT W V5) := Xk (by
     obtain ⟨a1, k1⟩ := H4.out.setW (told' := told) (t' := ⟨t2.place, t1.x + (n : Int), t2.y, c.st, c.text, t2.out ++ c.text⟩) (shn' := shn) 9 (.int .i64 (t1.x + (n : Int))) rfl rfl
     rw [hV5]
     exact ⟨a1, K4.out.trans k1⟩)
    clear hV5 hown' hgrow c1 f1 pp b9 q9 H4 K4 cO sz s0 hr hv hv1
    obtain ⟨h5, k5⟩ := R5.out
    have pc := h5.bp.blk.c 0 _ rfl
    have r0 := h5.br.blk.c 0 _ rfl
    have b9 := h5.bw.blk.c 9 _ rfl
    have b8 := h5.bw.blk.c 8 _ rfl
    have q8 := h5.bw.blk.f 8 _ rfl
    have rb := h5.ok.rb
    have rb2 : F.b ≠ F.r := fun e => rb e.symm
    have UT2 : Hid (qD F.R.w t i n c = ⟨decide (t1.x + (n : Int) < F.R.w), t1.x + (n : Int), t2.y, c.st, c.text, t2.out ++ c.text⟩) := Xk (by rw [UT.out, <- b22]; rfl)
    clear h5 k5 UT b22
    go_region
    go_wp2_with fail
    go_end0
    obtain ⟨h5, k5⟩ := R5.out
    obtain ⟨a1, k1⟩ := h5.setW (told' := told) (t' := ⟨decide (t1.x + (n : Int) < F.R.w), t1.x + (n : Int), t2.y, c.st, c.text, t2.out ++ c.text⟩) (shn' := shn) 8 (.bool (decide (t1.x + (n : Int) < F.R.w))) rfl rfl
    exact ⟨⟨_, rfl⟩, by rw [UT2.out]; exact a1.below (dr _), (k5.trans k1).trans (KeepT.below (dr _))⟩
end
section
open Go.RowKit
def totS (L : List Cel) : Nat := (L.map fun c => c.text.size).sum
theorem xV (a : Cel) (L : List Cel) : totS (a :: L) = a.text.size + totS L := by simp [totS]
theorem totS_mem {a : Cel} {L : List Cel} (h : a ∈ L) : a.text.size <= totS L := by
 induction L with
 | nil => cases h
 | cons b L ih =>
  rw [xV]
  rcases List.mem_cons.1 h with rfl | h
  ·omega
  ·have := ih h; omega
theorem Z9 (L : List Cel) (i : Nat) : (L.getD i celD).text.size <= totS L := by
 rcases Nat.lt_or_ge i L.length with h | h
 ·rw [List.getD_eq_getElem?_getD, List.getElem?_eq_getElem h]
  exact totS_mem (List.getElem_mem h)
 ·rw [List.getD_eq_getElem?_getD, List.getElem?_eq_none h]
  exact Nat.zero_le _
theorem totS_red (L : List Cel) (d : Int) : totS (redL L d) = totS L := by
 unfold totS redL
 rw [List.map_map]
 rfl
def sumT (L : List Cel) (l : List (Nat × Nat)) : Nat := (l.map fun p => (L.getD p.1 celD).text.size).sum
theorem kW (L : List Cel) (a b : List (Nat × Nat)) : sumT L (a ++ b) = sumT L a + sumT L b := by simp [sumT]
theorem Qa (L : List Cel) (i n : Nat) : sumT L [(i, n)] = (L.getD i celD).text.size := by simp [sumT]
theorem Qb {L l : List Cel} {a : Cel} {i : Nat} (h : L.drop i = a :: l) : L.getD i celD = a := by
 have := congrArg (fun m => m.getD 0 celD) h
 simpa [List.getD_eq_getElem?_getD, List.getElem?_drop] using this
theorem Qc (l : List Cel) (h : rowR l = true) : ∀ i k L, k.length = l.length -> L.drop i = l -> (zd i k l).length <= l.length /\ sumT L (zd i k l) <= totS l /\ ∀ p ∈ zd i k l, i <= p.1 /\ p.1 + p.2 <= i + l.length /\ (p.2 = 1 \/ p.2 = 2) :=
 jQ (P := fun l => ∀ i k L, k.length = l.length -> L.drop i = l -> (zd i k l).length <= l.length /\ sumT L (zd i k l) <= totS l /\ ∀ p ∈ zd i k l, i <= p.1 /\ p.1 + p.2 <= i + l.length /\ (p.2 = 1 \/ p.2 = 2))
  (fun i k L _ _ => by rw [jS]; exact ⟨Xm, Nat.zero_le _, fun p hp => by cases hp⟩)
  (fun a l s _ q i k L e hL => by
   cases k with
   | nil => cases e
   | cons b k =>
    simp only [List.length_cons, Nat.add_right_cancel_iff] at e
    rw [jU i b a k l (by rw [(jo s).1]; decide) e]
    obtain ⟨q1, q2, q3⟩ := q (i + 1) k L e (by rw [<- List.drop_drop, hL]; rfl)
    have ga := Qb hL
    rw [xV, List.length_append, kW]
    simp only [List.length_cons]
    by_cases c : b = a
    ·rw [if_pos c]
     refine ⟨by simp; omega, by simp [sumT] at *; omega, fun p hp => ?_⟩
     have := q3 p (by simpa using hp)
     omega
    ·rw [if_neg c, Qa, ga]
     refine ⟨by simp; omega, by omega, fun p hp => ?_⟩
     rcases List.mem_cons.1 hp with rfl | hp
     ·simp
     ·have := q3 p hp
      omega)
  (fun a b l p _ q i k L e hL => by
   cases k with
   | nil => cases e
   | cons c k =>
    cases k with
    | nil => cases e
    | cons d k =>
     simp only [List.length_cons, Nat.add_right_cancel_iff] at e
     rw [jT i c d a b k l (qC p).1]
     obtain ⟨q1, q2, q3⟩ := q (i + 2) k L e (by rw [<- List.drop_drop, hL]; rfl)
     have ga := Qb hL
     rw [xV, xV, List.length_append, kW]
     simp only [List.length_cons]
     by_cases g : c = a /\ d = b
     ·rw [if_pos g]
      refine ⟨by simp; omega, by simp [sumT] at *; omega, fun p hp => ?_⟩
      have := q3 p (by simpa using hp)
      omega
     ·rw [if_neg g, Qa, ga]
      refine ⟨by simp; omega, by omega, fun p hp => ?_⟩
      rcases List.mem_cons.1 hp with rfl | hp
      ·simp
      ·have := q3 p hp
       omega)
  l.length l Xm h
theorem sumT_pre {L : List Cel} {a b : List (Nat × Nat)} (h : a <+: b) : sumT L a <= sumT L b := by
 obtain ⟨r, rfl⟩ := h
 rw [kW]
 omega
theorem unitT_x (W : Int) (t : Tel) (i n : Nat) (c : Cel) : (qD W t i n c).x = (i : Int) % W + n := by
 unfold qD put1
 show (qZ _ _).x + (n : Int) = _
 have e : ∀ t u, (qZ t u).x = t.x := fun t u => by unfold qZ seqT; split <;> rfl
 rw [e]
 unfold qV
 by_cases g : goB t ((i : Int) % W) ((i : Int) / W) c.st c.text = true
 ·rw [if_pos g]; rfl
 ·rw [if_neg g]
  have g : goB t ((i : Int) % W) ((i : Int) / W) c.st c.text = false := by simpa using g
  unfold goB at g
  simp only [Bool.or_eq_false_iff, decide_eq_false_iff_not, Decidable.not_not] at g
  rw [g.1.1.2]
theorem JI (W : Int) (t : Tel) (i n : Nat) (c : Cel) (w0 : 1 <= W) (w1 : W <= 4096) (hi : i <= 2000000) : (qD W t i n c).out.size <= t.out.size + 600 + c.text.size := by
 have X0 : 0 <= (i : Int) % W := Int.emod_nonneg _ (by omega)
 have X1 : (i : Int) % W < W := Int.emod_lt_of_pos _ (by omega)
 have Y0 : 0 <= (i : Int) / W := Int.ediv_nonneg (by omega) (by omega)
 have Y1 : (i : Int) / W <= (i : Int) := Int.ediv_le_self _ (by omega)
 have a := kV ((i : Int) % W) ((i : Int) / W) (by omega) (by omega) (by omega) (by omega)
 have b := Z8 t.st c.st
 unfold qD put1
 show ((qZ (qV t ((i : Int) % W) ((i : Int) / W) c.st c.text) (qw t.st c.st)).out ++ c.text).size <= _
 rw [ByteArray.size_append]
 have e1 : ∀ u : ByteArray, (qZ (qV t ((i : Int) % W) ((i : Int) / W) c.st c.text) u).out.size <= t.out.size + 100 + u.size := fun u => by
  have e2 : (qV t ((i : Int) % W) ((i : Int) / W) c.st c.text).out.size <= t.out.size + 100 := by
   unfold qV
   split
   ·show (t.out ++ qM ((i : Int) % W) ((i : Int) / W)).size <= _
    rw [ByteArray.size_append]; omega
   ·omega
  unfold qZ
  split
  ·omega
  ·show ((qV t ((i : Int) % W) ((i : Int) / W) c.st c.text).out ++ u).size <= _
   rw [ByteArray.size_append]; omega
 have := e1 (qw t.st c.st)
 omega
theorem JJ (W : Int) (L : List Cel) (t : Tel) (p : Nat × Nat) (l : List (Nat × Nat)) : zZ W L t (p :: l) = zZ W L (qD W t p.1 p.2 (L.getD p.1 celD)) l := rfl
theorem Qd (W : Int) (L : List Cel) (w0 : 1 <= W) (w1 : W <= 4096) (M : Nat) (hM : totS L <= M) : ∀ (pre : List (Nat × Nat)) (t : Tel), (∀ p ∈ pre, p.1 <= 2000000 /\ (p.2 = 1 \/ p.2 = 2)) -> t.text.size <= M -> 0 <= t.x -> t.x <= 5000 ->
  (zZ W L t pre).out.size <= t.out.size + 600 * pre.length + sumT L pre /\ (zZ W L t pre).text.size <= M /\ 0 <= (zZ W L t pre).x /\ (zZ W L t pre).x <= 5000
 | [], t, _, h1, h2, h3 => ⟨by simp [zZ, sumT], h1, h2, h3⟩
 | p :: pre, t, hp, h1, h2, h3 => by
  have hp0 := hp p (by simp)
  have X0 : 0 <= (p.1 : Int) % W := Int.emod_nonneg _ (by omega)
  have X1 : (p.1 : Int) % W < W := Int.emod_lt_of_pos _ (by omega)
  have gx := unitT_x W t p.1 p.2 (L.getD p.1 celD)
  have go := JI W t p.1 p.2 (L.getD p.1 celD) w0 w1 hp0.1
  have gt : (qD W t p.1 p.2 (L.getD p.1 celD)).text.size <= M := Nat.le_trans (Z9 L p.1) hM
  have ih := Qd W L w0 w1 M hM pre (qD W t p.1 p.2 (L.getD p.1 celD)) (fun q hq => hp q (by simp [hq])) gt (by rw [gx]; omega) (by rw [gx]; omega)
  rw [JJ]
  have es : sumT L (p :: pre) = (L.getD p.1 celD).text.size + sumT L pre := by simp [sumT]
  rw [es]
  simp only [List.length_cons]
  exact ⟨by omega, ih.2⟩
theorem JK : qU.size = 22 := rfl
theorem Qe : jV.size = 6 := rfl
theorem JL : xh.size = 6 := rfl
def midT (x : Wri) (r : Scr) : Tel := zZ r.w r.cells (zN x (newB x r)) (zd 0 (qE x (newB x r) r) r.cells)
theorem Qf {x : Wri} {r : Scr} (hr : zh r = true) (hl : x.told = true -> zh x.last = true) : (qE x (newB x r) r).length = r.cells.length := by
 unfold qE
 split
 ·simp
 ·rename_i g
  have g : newB x r = false := by simpa using g
  unfold newB at g
  simp only [Bool.or_eq_false_iff, Bool.not_eq_false', decide_eq_false_iff_not, Decidable.not_not] at g
  have h1 := (zQ hr).2.1
  have h2 := (zQ (hl g.1.1)).2.1
  rw [g.1.2, g.2] at h2
  omega
theorem JM (x : Wri) (g : Bool) (ht : x.tel.text.size <= 400000000000) (h0 : 0 <= x.tel.x) (h1 : x.tel.x <= 5000) : (zN x g).out.size <= 22 /\ (zN x g).text.size <= 400000000000 /\ 0 <= (zN x g).x /\ (zN x g).x <= 5000 := by
 unfold zN
 cases g with
 | true => exact ⟨by rw [if_pos rfl]; exact Nat.le_refl 22, by rw [if_pos rfl]; exact Nat.zero_le _, by rw [if_pos rfl]; exact Int.le_refl 0, by rw [if_pos rfl]; show (0 : Int) <= 5000; omega⟩
 | false => rw [if_neg (by decide)]; exact ⟨Nat.zero_le _, ht, h0, h1⟩
theorem Qg {x : Wri} {r : Scr} (hr : zh r = true) (hl : x.told = true -> zh x.last = true) (ht : x.tel.text.size <= 400000000000) (h0 : 0 <= x.tel.x) (h1 : x.tel.x <= 5000) (hs : totS r.cells <= 1000000000)
  {pre : List (Nat × Nat)} (hp : pre <+: zd 0 (qE x (newB x r) r) r.cells) (hw : 1 <= r.w \/ pre = []) :
  (zZ r.w r.cells (zN x (newB x r)) pre).out.size <= 2000000000 /\ (zZ r.w r.cells (zN x (newB x r)) pre).text.size <= 400000000000 /\ 0 <= (zZ r.w r.cells (zN x (newB x r)) pre).x /\ (zZ r.w r.cells (zN x (newB x r)) pre).x <= 5000 := by
 obtain ⟨s1, s2, s3, s4⟩ := JM x (newB x r) ht h0 h1
 have len := Qf hr hl
 obtain ⟨r1, r2, _⟩ := zQ hr
 have sz := qS r1
 obtain ⟨q1, q2, q3⟩ := Qc r.cells (jR hr) 0 _ r.cells len rfl
 rcases hw with hw | rfl
 ·have b := Qd r.w r.cells hw sz.2.1 400000000000 (by omega) pre (zN x (newB x r)) (fun p hp' => by
   obtain ⟨_, a, c⟩ := q3 p (hp.subset hp')
   exact ⟨by omega, c⟩) s2 s3 s4
  have lp := hp.length_le
  have sp := sumT_pre (L := r.cells) hp
  refine ⟨?_, b.2⟩
  have := b.1
  omega
 ·exact ⟨by show (zN x (newB x r)).out.size <= _; omega, s2, s3, s4⟩
end
section
open Go Go.RowKit Go.Sort
def TRow (W : World) (A : Option Addr) (L : List Cel) : Prop := ∃ (g : Nat) (arr : Array Value) (fl : Nat × Nat), A = some ⟨g, 0, none⟩ /\ W.heap[g]? = some (Obj.cells arr 58 fl) /\ Sees W W.heap.size A (zc L)
theorem TRow.keep {W W' : World} {A : Option Addr} {L : List Cel} (h : TRow W A L) (k : KeepT W W') (hs : W.heap.size <= W'.heap.size) : TRow W' A L := by
 obtain ⟨g, arr, fl, rfl, hg, S⟩ := h
 exact ⟨g, arr, fl, rfl, (k g arr fl hg).trans hg, (k.sees hg S).more hs⟩
theorem TRow.below {W W' : World} {A : Option Addr} {L : List Cel} (h : TRow W A L) (hb : Below W.heap.size W W') : TRow W' A L := h.keep (KeepT.below hb) hb.size
theorem TRow.of_own {W : World} {base g n : Nat} {L : List Cel} (h : W.ownsRow base 58 5 (.slice (some ⟨g, 0, none⟩) n n) n (zc L)) : TRow W (some ⟨g, 0, none⟩) L := by
 rcases h.2 with ⟨e, _⟩ | ⟨g', cap, cur, e, _, hg, _⟩
 ·cases e
 ·injection e with e1
  injection e1 with e1
  injection e1 with e1
  subst e1
  refine ⟨g, cur, (0, 0), rfl, hg, fun _ => ⟨_, rfl, (Array.getElem?_eq_some_iff.1 hg).1, fun j u hj => ?_⟩⟩
  exact h.cells (g := g) rfl j u hj
structure WrAt (w : World) (b : Nat) (x : Wri) (LA : Option Addr) (Lc : Nat) : Prop where
 own : Own1 w b (wriV x.depth x.told x.last.w x.last.h LA x.last.cells.length Lc x.last.x x.last.y x.last.shown x.tel x.shown) 86
 last : x.told = true -> zh x.last = true /\ TRow w LA x.last.cells
 tx : 0 <= x.tel.x /\ x.tel.x <= 5000
 tt : x.tel.text.size <= 400000000000
theorem WrAt.below {w w' : World} {b : Nat} {x : Wri} {LA : Option Addr} {Lc : Nat} (h : WrAt w b x LA Lc) (hb : Below w.heap.size w w') : WrAt w' b x LA Lc :=
 ⟨h.own.below hb, fun e => ⟨(h.last e).1, (h.last e).2.below hb⟩, h.tx, h.tt⟩
end
end Go.Proofs.YtifoijbpbigaaaaGreatDoor
