/- The law's fresh (walk). -/
import Derived.Test.YtifoijbpbigaaaaGreatDoorFRcJ
set_option linter.unusedVariables false
set_option linter.unusedSimpArgs false
namespace Go.Proofs.YtifoijbpbigaaaaGreatDoor
section
open Go Go.RowKit Go.Sort
section
theorem apart_of {R : List (Rv × ByteArray)} (h : R.Pairwise fun a b => ∀ g, a.1.v.ownBlock = some g -> b.1.v.ownBlock ≠ some g) : Apart (R.map (·.1)) := by
 have key : ∀ i j (hi : i < R.length) (hj : j < R.length), i < j -> ∀ g, R[i].1.v.ownBlock = some g -> R[j].1.v.ownBlock ≠ some g := fun i j hi hj l => List.pairwise_iff_getElem.1 h i j hi hj l
 intro j l hj hl ne g e
 rw [List.length_map] at hj hl
 rw [List.getElem_map] at e ⊢
 rcases Nat.lt_or_gt_of_ne ne with z | z
 ·exact key j l hj hl z g e
 ·exact fun e2 => key l j hl hj z g e2 e
set_option maxHeartbeats 64000000 in
set_option maxRecDepth 100000 in
theorem Zf (LO : Nat) (q : Pr) (w : World) (h : PrS LO q w) (ew : q.ws = q.R.map (·.2)) (hN : q.R.length <= 1990000000000) (hL : LO <= w.heap.size) :
  Calls Tryz.prog 20 #[.pointer (some ⟨q.p, 0, none⟩)] w fun e w' => e = .returned (.bool true) /\ Ch q.O w w' := by
 obtain ⟨S, hS⟩ : ∃ S, S = q.R.map (·.1) := ⟨_, rfl⟩
 obtain ⟨N, hNe⟩ : ∃ N, N = q.R.length := ⟨_, rfl⟩
 have SL : S.length = N := by rw [hS, List.length_map, hNe]
 have WL : q.ws.length = N := by rw [ew, List.length_map, hNe]
 have P2 : ∀ V : World, (V.heap[q.p]? = w.heap[q.p]?) -> V.cell? ⟨q.p, 2, none⟩ = some (.slice q.TA N q.Tc) := fun V e => by rw [hNe]; exact (show Own1 V q.p [.pointer (some ⟨q.pp, 0, none⟩), .pointer (some ⟨q.rb, 0, none⟩), q.tv, q.wv] 78 from e.trans h.bx).blk.c 2 _ rfl
 have P3 : ∀ V : World, (V.heap[q.p]? = w.heap[q.p]?) -> V.cell? ⟨q.p, 3, none⟩ = some (.slice q.WA N q.Wc) := fun V e => by rw [<- WL]; exact (show Own1 V q.p [.pointer (some ⟨q.pp, 0, none⟩), .pointer (some ⟨q.rb, 0, none⟩), q.tv, q.wv] 78 from e.trans h.bx).blk.c 3 _ rfl
 have PH2 := Vd P2
 have PH3 := Vd P3
 have HH := Vd h
 have TD : w.ownsRow LO 66 1 (.slice q.TA N q.Tc) N (S.map Rv.v) := by
  have := h.told
  rw [hS, List.map_map]
  rw [hNe]
  exact this
 have HTD := Vd TD
 have RO : Hid (∀ j (hj : j < S.length), ∃ st, w.ownsRow LO 5 1 S[j].v S[j].n (Lib.strCells st) /\ S[j].n = st.size /\ S[j].n <= 3000000000 /\ q.ws[j]? = some st) := Vd (fun j hj => by
  have hj2 : j < q.R.length := by rw [<- hNe, <- SL]; exact hj
  have e : S[j] = (q.R[j]).1 := by simp only [hS, List.getElem_map]
  have := h.rows _ (List.getElem_mem hj2)
  rw [e]
  exact ⟨(q.R[j]).2, this.1, this.2.1, by rw [this.2.1]; exact this.2.2, by rw [ew, List.getElem?_map, List.getElem?_eq_getElem hj2]; rfl⟩)
 have HSE := Vd hS
 have AP := Vd (show Apart S by rw [hS]; exact apart_of h.apart)
 have PO : Hid (∀ b, (∃ j, ∃ hj : j < S.length, S[j].v.ownBlock = some b) -> q.O b) := Vd (fun b ⟨j, hj, e⟩ => by
  have hj2 : j < q.R.length := by rw [<- hNe, <- SL]; exact hj
  have e2 : S[j] = (q.R[j]).1 := by simp only [hS, List.getElem_map]
  rw [e2] at e
  exact Or.inr (Or.inr (Or.inr (Or.inr (Or.inr ⟨_, List.getElem_mem hj2, e⟩)))))
 have NP : Hid (∀ j (hj : j < S.length), S[j].v.ownBlock ≠ some q.p) := Vd (fun j hj e => by
  obtain ⟨st, o, _⟩ := RO.out j hj
  exact (zQ o e).ne h.bx.typ (by decide) rfl)
 have PL := Vd h.bx.lt
 have HEW := Vd ew
 have HNE := Vd hNe
 have HSL := Vd SL
 have HWL := Vd WL
 have HLW := Vd hL
 rw [<- hNe] at hN
 have HNN := Vd hN
 have p2 := P2 w rfl
 clear h ew P2 P3 TD hS hNe SL WL hL hN
 go_enter Tryz.func20, Tryz.ntmps20
 go_wp2_with fail
 clear p2
 go_loopw [3] (fun s3 wr => ∃ i : Nat, i <= N /\ s3 = .int .i64 (i : Int) /\ Hid (Below w.heap.size w wr)) (fun s3 _ => N - (intOf s3).toNat)
 case atStart => exact ⟨0, Nat.zero_le _, rfl, Vd (Below.refl _ _)⟩
 case round =>
  obtain ⟨i, hi, rfl, hb⟩ := hrel
  by_cases lt : i < N
  ·have hN := HNN.out
   obtain ⟨tb, tc, e⟩ := xU HTD.out (fun z => by injection z with _ z _; omega)
   obtain ⟨wb, wc', e'⟩ := xU HH.out.want (fun z => by unfold Pr.wv at z; injection z with _ z _; rw [HWL.out] at z; omega)
   injection e with e1 _ _
   unfold Pr.wv at e'
   injection e' with e2 _ _
   have li : i < S.length := by rw [HSL.out]; exact lt
   obtain ⟨r, hr⟩ : ∃ r, r = S[i] := ⟨_, rfl⟩
   obtain ⟨st, ro, on, _, hst⟩ := RO.out i li
   have BD := Vd (fun k => hb.out.trans ((below_regrown wr k #[] |> fun _ => j5 k wr (Below.refl wr.heap.size wr)).mono hb.out.size))
   have T1 : Hid (∀ k, (wr.drewN k).cell? ⟨tb, i, none⟩ = some (.slice r.A r.n r.c)) := Vd (fun k => by
    have o := qg HTD.out (BD.out k)
    rw [e1] at o
    rw [hr]
    exact xW (SeesT.of_own o) li)
   have T2 : Hid (∀ k, (wr.drewN k).cell? ⟨wb, i, none⟩ = some (.string st)) := Vd (fun k => by
    have o := qg HH.out.want (BD.out k)
    have o2 : (wr.drewN k).ownsRow LO 9 1 (.slice (some ⟨wb, 0, none⟩) q.ws.length q.Wc) q.ws.length (q.ws.map .string) := by rw [<- e2]; exact o
    have wl : i < q.ws.length := by rw [HWL.out]; exact lt
    obtain ⟨ad, ea, _, x⟩ := (SeesT.of_own o2).sees.at (k := i) (by rw [List.length_map]; exact wl)
    cases ea
    rw [List.getElem_map] at x
    rw [List.getElem?_eq_getElem wl] at hst
    have hst := Option.some.inj hst
    have e3 : (⟨wb, 0, none⟩ : Addr).add i = ⟨wb, i, none⟩ := by
     cases i with
     | zero => rfl
     | succ j => show (⟨wb, 0 + (j + 1), none⟩ : Addr) = _; rw [Nat.zero_add]
    rw [e3] at x
    rw [x, hst])
   have CV : Hid (∀ k, (convert 66 9 (.slice r.A r.n r.c)).run Tryz.prog (wr.drewN k) = .ok (.string st) (wr.drewN k)) := Vd (fun k => by
    have o := qg ro (BD.out k)
    rw [on] at o
    have e4 : S[i].v = .slice r.A r.n r.c := by rw [hr]; rfl
    rw [e4] at o
    have on : r.n = st.size := by rw [hr]; exact on
    rw [on] at o ⊢
    exact vU o)
   have p2 : ∀ k, (wr.drewN k).cell? ⟨q.p, 2, none⟩ = some (.slice (some ⟨tb, 0, none⟩) N q.Tc) := fun k => by rw [<- e1]; exact PH2.out _ ((BD.out k).block _ PL.out)
   have p3 : ∀ k, (wr.drewN k).cell? ⟨q.p, 3, none⟩ = some (.slice (some ⟨wb, 0, none⟩) N q.Wc) := fun k => by rw [<- e2]; exact PH3.out _ ((BD.out k).block _ PL.out)
   have p2w : wr.cell? ⟨q.p, 2, none⟩ = some (.slice (some ⟨tb, 0, none⟩) N q.Tc) := by rw [<- e1]; exact PH2.out _ (hb.out.block _ PL.out)
   have t1 := T1.out
   have t2 := T2.out
   have cv := CV.out
   have q0 : (0 : Int) <= (i : Int) := by omega
   have q5 : (i : Int) < (N : Int) := by omega
   have tn : (i : Int).toNat = i := by omega
   have wk := Ve ((i : Int) + 1) (by omega)
   have es : (st.toList == st.toList) = true := by simp
   obtain ⟨rA, rn, rc⟩ := r
   dsimp only at t1 cv
   clear T1 T2 CV e1 e2 hr hst hb ro on
   go_upto_region 4 with fail
   refine qP 15 (by kernel_rfl) (by kernel_rfl) ?_
   simp only [Vg, Vh, Vi, Vj]
   repeat (first | go_big_quiet_step (fail) | quiet_step (fail))
   refine wpQuiet_nil ?_
   intro _ hw'
   obtain ⟨nq, hw''⟩ := hw'
   subst hw''
   have B5 := Vd (BD.out nq)
   clear t1 t2 cv p2 p3 p2w BD
   generalize wr.drewN nq = V at *
   go_wp2_with fail
   go_roundw
   case rel => exact ⟨i + 1, by omega, by go_num, B5⟩
   case measure => simp [intOf]; omega
  ·have e : i = N := by omega
   subst e
   have q5 : ¬ (i : Int) < (i : Int) := by omega
   have p2 := PH2.out wr (hb.out.block _ PL.out)
   obtain ⟨W1, hW1⟩ : ∃ W1, W1 = wr := ⟨_, rfl⟩
   rw [<- hW1] at hb p2 ⊢
   have HB1 := Vd hb.out
   have LW1 : LO <= W1.heap.size := Nat.le_trans HLW.out hb.out.size
   have HL1 := Vd LW1
   have M0 : Hid (Mrk W1 LO 5 66 1 mk1 q.TA S 0 0 W1) := Vd ⟨fun j hj => by
    obtain ⟨st, o, _⟩ := RO.out j hj
    exact ⟨_, qg o HB1.out, fun z => by omega, fun _ => by rw [Nat.zero_mul]; rfl⟩, AP.out, SeesT.of_own (qg HTD.out HB1.out), by decide, Below.refl _ _, LW1, fun _ _ _ => rfl⟩
   have PW : Hid (∀ V : World, (∀ b, b < W1.heap.size -> (∀ j (h : j < S.length), S[j].v.ownBlock ≠ some b) -> V.heap[b]? = W1.heap[b]?) -> V.heap[q.p]? = w.heap[q.p]?) := Vd (fun V k => (k q.p (Nat.lt_of_lt_of_le PL.out HB1.out.size) NP.out).trans (HB1.out.block _ PL.out))
   have RN : Hid (∀ j (hj : j < S.length), S[j].n <= 3000000000 /\ ∀ g, S[j].v.ownBlock = some g -> g < W1.heap.size) := Vd (fun j hj => by
    obtain ⟨st, o, _, n3, _⟩ := RO.out j hj
    exact ⟨n3, fun g e => Nat.lt_of_lt_of_le (o.lt g e).2 HB1.out.size⟩)
   have TBL : Hid (0 < i -> ∃ tb, q.TA = some ⟨tb, 0, none⟩ /\ tb < W1.heap.size) := Vd (fun z => by
    obtain ⟨tb, tc, e⟩ := xU HTD.out (fun z => by injection z with _ z _; omega)
    have h2 := HTD.out
    rw [e] at h2
    injection e with e1 _ _
    exact ⟨tb, e1, Nat.lt_of_lt_of_le (Q9 h2).2 HB1.out.size⟩)
   have RCH : Hid (∀ V : World, V.os = W1.os -> V.tape = W1.tape -> V.output = W1.output -> W1.heap.size <= V.heap.size -> (∀ b, b < W1.heap.size -> (∀ j (h : j < S.length), S[j].v.ownBlock ≠ some b) -> V.heap[b]? = W1.heap[b]?) -> Ch q.O w V) := Vd (fun V a b c d k => ⟨a.trans HB1.out.os, b.trans HB1.out.tape, c.trans HB1.out.output, Nat.le_trans HB1.out.size d, fun g hg no => (k g (Nat.lt_of_lt_of_le hg HB1.out.size) (fun j hj e => no (PO.out g ⟨j, hj, e⟩))).trans (HB1.out.block g hg)⟩)
   have LAH : Hid (∀ ad : Addr, q.TA = some ad -> ad.block < W1.heap.size) := Vd (fun ad e => by
    rcases HTD.out.2 with ⟨z, _⟩ | ⟨g, cap, cur, z, hb', hg, _⟩
    ·injection z with z1
     rw [z1] at e
     cases e
    ·injection z with z1
     rw [z1] at e
     injection e with e
     rw [<- e]
     exact Nat.lt_of_lt_of_le (qE hg) HB1.out.size)
   clear hW1 hb LW1 RO AP HH PO NP HTD
   go_wp2_with fail
   clear p2
   go_loopw [4] (fun s4 wr => ∃ a : Nat, a <= i /\ s4 = .int .i64 (a : Int) /\ Hid (Mrk W1 LO 5 66 1 mk1 q.TA S a 0 wr)) (fun s4 _ => i - (intOf s4).toNat)
   case atStart => exact ⟨0, Nat.zero_le _, rfl, M0⟩
   case round =>
    obtain ⟨a, ha, rfl, hm⟩ := hrel
    clear M0
    have hN := HNN.out
    by_cases lt : a < i
    ·have li : a < S.length := by rw [HSL.out]; exact lt
     obtain ⟨tb, e1, tbl⟩ := TBL.out (by omega)
     obtain ⟨r, hr⟩ : ∃ r, r = S[a] := ⟨_, rfl⟩
     have HRV := Vd hr
     have HO : Hid (∀ k V, Mrk W1 LO 5 66 1 mk1 q.TA S a k V -> V.cell? ⟨tb, a, none⟩ = some (.slice r.A r.n r.c) /\ V.cell? ⟨q.p, 2, none⟩ = some (.slice (some ⟨tb, 0, none⟩) i q.Tc)) := Vd (fun k V h => by
      have o := h.out
      rw [e1] at o
      refine ⟨by rw [hr]; exact xW o li, ?_⟩
      rw [<- e1]
      exact PH2.out V (PW.out V h.kp))
     have HR := Vd (show r.n <= 3000000000 by rw [hr]; exact (RN.out a li).1)
     obtain ⟨o1, p2⟩ := HO.out _ _ hm.out
     obtain ⟨A, n, c⟩ := r
     dsimp only at o1 HR HO
     clear hr
     have hr := HR.out
     have q0 : (0 : Int) <= (a : Int) := by omega
     have q5 : (a : Int) < (i : Int) := by omega
     have tn : (a : Int).toNat = a := by omega
     have ML := Vd hm.out
     clear hm
     go_wp2_with fail
     clear o1 p2
     go_loopw [5] (fun s5 wr => ∃ k : Nat, k <= n /\ s5 = .int .i64 (k : Int) /\ Hid (Mrk W1 LO 5 66 1 mk1 q.TA S a k wr)) (fun s5 _ => n - (intOf s5).toNat)
     case atStart => exact ⟨0, Nat.zero_le _, rfl, ML⟩
     case round =>
      obtain ⟨k, hk, rfl, hm⟩ := hrel
      clear ML
      obtain ⟨o1, p2⟩ := HO.out k _ hm.out
      have hr := HR.out
      by_cases lk : k < n
      ·obtain ⟨xs, ow, _, tk⟩ := hm.out.rows a li
       have tk := tk rfl
       rw [<- HRV.out] at ow
       obtain ⟨g, c', e⟩ := xU ow (fun z => by injection z with _ z _; dsimp only at z; omega)
       have e2 : A = some ⟨g, 0, none⟩ := by injection e
       have e3 : c = c' := by injection e
       subst e2
       subst e3
       obtain ⟨⟨u0, x0⟩, ⟨xs', o', tk'⟩, gr⟩ := put1u ow lk (.int .u8 ((a : Int) % 100)) tk
       have f0 := ow.frozenAt k
       have HX := Vd (hm.out.put li (g := g) (by rw [<- HRV.out]; rfl) gr (by rw [<- HRV.out]; exact o') tk')
       have k0 : (0 : Int) <= (k : Int) := by omega
       have k6 : (k : Int) < (n : Int) := by omega
       have kn : (k : Int).toNat = k := by omega
       have wk := Ve ((k : Int) + 1) (by omega)
       clear ow o' tk' gr hm e
       go_wp2_with fail
       go_roundw
       case rel => exact ⟨k + 1, by omega, by go_num, HX⟩
       case measure => simp [intOf]; omega
      ·have e : k = n := by omega
       subst e
       have k6 : ¬ (k : Int) < (k : Int) := by omega
       have HX := Vd (hm.out.next li (by rw [<- HRV.out]))
       have wk := Ve ((a : Int) + 1) (by omega)
       clear hm
       go_wp2_with fail
       go_roundw
       case rel => exact ⟨a + 1, by omega, by go_num, HX⟩
       case measure => simp [intOf]; omega
    ·have e : a = i := by omega
     subst e
     have p2 := PH2.out wr (PW.out wr hm.out.kp)
     have q5 : ¬ (a : Int) < (a : Int) := by omega
     have G0 : Hid (Grw W1 LO 5 66 1 mk1 mk2 q.TA S wr.heap.size [] (.slice none 0 0) wr) := Vd (Grw.start (i := 0) (by rw [HSL.out]; exact hm.out) wr.heap.size (fun j hj g e => Nat.lt_of_lt_of_le ((RN.out j hj).2 g e) hm.out.bel.size) (fun ad e => by
      exact Nat.lt_of_lt_of_le (LAH.out ad e) hm.out.bel.size) Vf (Nat.le_trans HL1.out hm.out.bel.size) hm.out.bel.size)
     obtain ⟨H0, hH0⟩ : ∃ H0, H0 = wr.heap.size := ⟨_, rfl⟩
     rw [<- hH0] at G0
     clear hm hH0
     go_wp2_with fail
     clear p2
     go_loopw [6, 7] (fun s6 s7 wr => ∃ (M : List Rv) (A6 : Option Addr) (c6 : Nat), M.length <= a /\ s6 = .slice A6 M.length c6 /\ s7 = .int .i64 (M.length : Int) /\ Hid (Grw W1 LO 5 66 1 mk1 mk2 q.TA S H0 (M) (.slice A6 M.length c6) wr)) (fun _ s7 _ => a - (intOf s7).toNat)
     case atStart => exact ⟨[], none, 0, Nat.zero_le _, rfl, rfl, G0⟩
     case round =>
      obtain ⟨M, A6, c6, hM, rfl, rfl, hm⟩ := hrel
      obtain ⟨WS, hWS⟩ : ∃ WS, WS = wr := ⟨_, rfl⟩
      subst hWS
      clear G0
      have hN := HNN.out
      have p2 := PH2.out WS (PW.out WS hm.out.kp)
      by_cases lt : M.length < a
      ·have li : M.length < S.length := by rw [HSL.out]; exact lt
       obtain ⟨tb, e1, tbl⟩ := TBL.out (by omega)
       have I0 : Hid (Inn W1 LO 5 1 (mk1 M.length) (mk2 M.length) S[M.length] WS 0 S[M.length].A S[M.length].c WS) := Vd (Inn.start hm.out li)
       have o1 := hm.out.out
       rw [e1] at o1
       have o1 := xW o1 li
       rw [e1] at p2
       have HR := Vd (RN.out M.length li).1
       obtain ⟨r, hr⟩ : ∃ r, r = S[M.length] := ⟨_, rfl⟩
       have HG := Vd hm.out
       rw [<- hr] at o1 HR I0
       have HRV := Vd hr
       clear hr hm e1
       obtain ⟨A, n, c⟩ := r
       dsimp only at o1 HR I0
       have hr := HR.out
       obtain ⟨m, em⟩ : ∃ m, m = M.length := ⟨_, rfl⟩
       have HM := Vd em
       rw [<- em] at o1 I0 lt li hM ⊢
       clear em
       have q0 : (0 : Int) <= (m : Int) := by omega
       have q6 : (m : Int) < (a : Int) := by omega
       have tn : (m : Int).toNat = m := by omega
       go_wp2_with fail
       clear o1 p2
       go_loopw [8, 9] (fun s8 s9 wq => ∃ (z : Nat) (A' : Option Addr) (c' : Nat), z <= 70 /\ s8 = .slice A' (n + z) c' /\ s9 = .int .i64 (z : Int) /\ Hid (Inn W1 LO 5 1 (mk1 m) (mk2 m) ⟨A, n, c⟩ WS z A' c' wq)) (fun _ s9 _ => 70 - (intOf s9).toNat)
       case atStart => exact ⟨0, A, c, Nat.zero_le _, rfl, rfl, I0⟩
       case round =>
        obtain ⟨z, A', c', hz, rfl, rfl, hm⟩ := hrel
        clear I0
        by_cases l7 : z < 70
        ·obtain ⟨A3, c3, w3, R, o3, d3⟩ := app_u8 hm.out.cur m (Nat.le_trans HL1.out hm.out.bel.size) (by dsimp only; omega)
         have HX := Vd (hm.out.app ((Below.refl _ _).alloc Vf _) o3 d3)
         dsimp only at R
         obtain ⟨nq, hnq⟩ : ∃ nq, nq = n + z := ⟨_, rfl⟩
         have hnq1 : n + (z + 1) = nq + 1 := by omega
         rw [<- hnq] at R ⊢
         have HJ := Vd hnq1
         have p5 : (z : Int) < 70 := by omega
         have wj := Ve ((z : Int) + 1) (by omega)
         clear o3 d3 hm hnq hnq1
         go_wp2_with (first | (at_builtin; refine jr rfl (.tmp 90) (.tmp 95) 66 66 rfl _ _ _ _ rfl rfl R ?_) | fail)
         go_roundw
         case rel => exact ⟨z + 1, A3, c3, by omega, by rw [HJ.out], by go_num, HX⟩
         case measure => simp [intOf]; omega
        ·have e : z = 70 := by omega
         subst e
         have p5 : ¬ ((70 : Nat) : Int) < 70 := by omega
         have LM : M.length < S.length := by rw [<- HM.out]; exact li
         have HI : Inn W1 LO 5 1 (mk1 M.length) (mk2 M.length) S[M.length] WS 70 A' c' wr := by
          have := hm.out
          rw [HRV.out, HM.out] at this
          exact this
         obtain ⟨m1, m2, m3⟩ := Inn.mid HG.out LM HI
         obtain ⟨A3, c3, w3, R, o3, g3⟩ := app_slcB m1 (.slice A' (n + 70) c') rfl m3 (by rw [<- HM.out]; omega)
         have en : n + 70 = S[M.length].n + 70 := by rw [<- HRV.out]
         have HX := Vd (HG.out.next LM HI ((Below.refl wr.heap.size wr).alloc Vf _) en o3 g3)
         have HLL : Hid ((M ++ [(⟨A', n + 70, c'⟩ : Rv)]).length = m + 1) := Vd (by rw [List.length_append, List.length_singleton, HM.out])
         rw [<- HM.out] at R
         have wk := Ve ((m : Int) + 1) (by omega)
         obtain ⟨n7, hn7⟩ : ∃ n7, n7 = n + 70 := ⟨_, rfl⟩
         rw [<- hn7] at R HX HLL ⊢
         clear hm HI m1 m2 m3 o3 g3 en LM hn7
         go_wp2_with (first | (at_builtin; refine jr rfl (.tmp 97) (.tmp 99) 75 75 rfl _ _ _ _ rfl rfl R ?_) | fail)
         go_roundw
         case rel => exact ⟨M ++ [⟨A', n7, c'⟩], A3, c3, by rw [HLL.out]; omega, by rw [HLL.out], by rw [HLL.out]; go_num, Vd (by rw [HLL.out, HM.out]; exact HX.out)⟩
         case measure => simp [intOf]; omega
      ·have e : M.length = a := by omega
       rw [e] at hm ⊢
       have q5 : ¬ (a : Int) < (a : Int) := by omega
       have HG := Vd hm.out
       have HE := Vd e
       clear hm hM lt e
       go_wp2_with fail
       go_loopw [10] (fun s10 wq => ∃ j : Nat, j <= a /\ s10 = .int .i64 (j : Int) /\ WS = wq) (fun s10 _ => a - (intOf s10).toNat)
       case atStart => exact ⟨0, Nat.zero_le _, rfl, rfl⟩
       case round =>
        obtain ⟨j, hj, rfl, hwq⟩ := hrel
        subst hwq
        by_cases lt : j < a
        ·have li : j < S.length := by rw [HSL.out]; exact lt
         have lm : j < M.length := by rw [HE.out]; exact lt
         obtain ⟨tb, e1, tbl⟩ := TBL.out (by omega)
         have HR := Vd (RN.out j li).1
         have o1 := HG.out.out
         rw [e1] at o1
         have o1 := xW o1 li
         rw [e1] at p2
         obtain ⟨n1, n2⟩ := HG.out.new j li lm
         have OJ := Vd (HG.out.old j li lm)
         have mo := HG.out.mo
         rw [HE.out] at mo
         obtain ⟨mb, mc, em⟩ := xU mo (fun z => by injection z with _ z _; omega)
         have e6 : A6 = some ⟨mb, 0, none⟩ := by injection em
         subst e6
         have o2 := xW (SeesT.of_own mo) lm
         rw [n1] at o2
         have NJ := Vd n2
         obtain ⟨r, hr⟩ : ∃ r, r = S[j] := ⟨_, rfl⟩
         obtain ⟨u, hu⟩ : ∃ u, u = M[j] := ⟨_, rfl⟩
         rw [<- hr] at o1 o2 HR OJ NJ
         rw [<- hu] at o2 NJ
         obtain ⟨A, n, c⟩ := r
         obtain ⟨A', n', c'⟩ := u
         dsimp only at o1 o2 HR OJ NJ
         have hr' := HR.out
         have q0 : (0 : Int) <= (j : Int) := by omega
         have q6 : (j : Int) < (a : Int) := by omega
         have tn : (j : Int).toNat = j := by omega
         have wk := Ve ((j : Int) + 1) (by omega)
         clear em mo n1 n2 hr hu e1
         go_wp2_with fail
         go_loopw [11] (fun s11 wp => ∃ k : Nat, k <= n + 70 /\ s11 = .int .i64 (k : Int) /\ WS = wp) (fun s11 _ => n + 70 - (intOf s11).toNat)
         case atStart => exact ⟨0, Nat.zero_le _, rfl, rfl⟩
         case round =>
          obtain ⟨k, hk, rfl, hwp⟩ := hrel
          subst hwp
          by_cases lk : k < n + 70
          ·obtain ⟨g', e', x'⟩ := rep_b2 NJ.out lk
           subst e'
           have k0 : (0 : Int) <= (k : Int) := by omega
           have k6 : (k : Int) < ((n + 70 : Nat) : Int) := by omega
           have tk : (k : Int).toNat = k := by omega
           have wkk := Ve ((k : Int) + 1) (by omega)
           by_cases ln : k < n
           ·rw [if_pos ln] at x'
            obtain ⟨g, e, x⟩ := rep_b1 OJ.out ln
            subst e
            have k7 : (k : Int) < (n : Int) := by omega
            go_wp2_with fail
            go_roundw
            case rel => exact ⟨k + 1, by omega, by go_num, trivial⟩
            case measure => simp [intOf]; omega
           ·rw [if_neg ln] at x'
            have k7 : ¬ (k : Int) < (n : Int) := by omega
            have k8 : (n : Int) <= (k : Int) := by omega
            go_wp2_with fail
            go_roundw
            case rel => exact ⟨k + 1, by omega, by go_num, trivial⟩
            case measure => simp [intOf]; omega
          ·have e : k = n + 70 := by omega
           subst e
           have k6 : ¬ ((n + 70 : Nat) : Int) < ((n + 70 : Nat) : Int) := by omega
           go_wp2_with fail
           go_roundw
           case rel => exact ⟨j + 1, by omega, by go_num, trivial⟩
           case measure => simp [intOf]; omega
        ·have e : j = a := by omega
         subst e
         have q5 : ¬ (j : Int) < (j : Int) := by omega
         have FIN := Vd (RCH.out WS HG.out.bel.os HG.out.bel.tape HG.out.bel.output HG.out.bel.size HG.out.kp)
         go_wp2_with fail
         go_ret
         exact ⟨rfl, FIN.out⟩
end
end
end Go.Proofs.YtifoijbpbigaaaaGreatDoor
