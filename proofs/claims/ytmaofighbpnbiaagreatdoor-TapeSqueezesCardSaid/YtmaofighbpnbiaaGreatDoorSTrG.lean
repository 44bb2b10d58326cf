/- TapeSqueezes: the walk. -/
import Derived.Test.YtmaofighbpnbiaaGreatDoorTaEP
import Derived.Test.YtmaofighbpnbiaaGreatDoorSTrF
import Derived.Test.YtmaofighbpnbiaaGreatDoorTaEQ
namespace Go.Proofs.YtmaofighbpnbiaaGreatDoor
open Go Go.RowKit Go.Sort
set_option linter.unusedSimpArgs false
set_option linter.unusedVariables false
section
theorem bs_flatG {L : List FA} {x : FA} (m : x ∈ L) : x.b.bs.length <= (zk L).length := by
 induction L with
 | nil => cases m
 | cons y l ih =>
  unfold zk at *
  rw [List.flatMap_cons, List.length_append]
  rcases List.mem_cons.1 m with rfl | m
  ·omega
  ·have := ih m; omega
theorem CpyR.segs {W w' : World} {v : Value} {l : List Frm} (h : CpyR W w' v l) (tot : (l.flatMap (·.bs)).length <= 140737488355328) : ∃ S, SegS W.heap.size w' v S /\ frms (segF S) = l /\ (∀ x ∈ segF S, x.b.bs.length <= 1048576 /\ 0 <= x.at_) := by
 rcases h.2 with ⟨rfl, rfl⟩ | ⟨g, L', hg, o, r, e, ok⟩
 ·exact ⟨[], SegS.nil _ _, rfl, fun x m => by cases m⟩
 ·have sf : segF [⟨g, 0, L'⟩] = cpF g 0 0 L' := by unfold segF; rw [List.flatMap_cons, List.flatMap_nil, List.append_nil]
  have ef : frms (cpF g 0 0 L') = l := by rw [Ze, Qv, e]
  refine ⟨[⟨g, 0, L'⟩], ⟨by rw [sf]; exact o, fun s m => ?_, fun s m => ?_, by simp⟩, by rw [sf, ef], fun x m => ?_⟩
  ·rw [List.mem_singleton.1 m]; exact ⟨hg, r⟩
  ·rw [List.mem_singleton.1 m]
   exact ⟨by rw [<- kO, e]; exact tot, fun x m => ⟨(ok x m).1, by have := ok x m; show -9223372036854775808 <= x.at_ + 0; omega, by have := ok x m; show x.at_ + 0 <= _; omega⟩⟩
  ·rw [sf] at m
   have mf : FA.frm x ∈ frms L' := by rw [e, <- ef]; exact List.mem_map_of_mem m
   obtain ⟨y, my, ey⟩ := List.mem_map.1 mf
   have e1 : y.at_ = x.at_ := congrArg Frm.at_ ey
   have e2 : y.b.bs = x.b.bs := congrArg Frm.bs ey
   have := ok y my
   rw [<- e1, <- e2]
   exact ⟨this.2.1, this.2.2.1⟩
theorem SegS.frs {LO : Nat} {w : World} {S : List Seg} {A : Option Addr} {n c : Nat} (h : SegS LO w (.slice A n c) S) (hl : (segF S).length <= 1000000) : n = (segF S).length /\ FrsD w w.heap.size A c (segF S) := by
 have e := xf h.own rfl
 injection e with e1 e2 e3
 subst e2
 refine ⟨rfl, own_frsD h.own hl (fun x m => ?_)⟩
 obtain ⟨s, ms, mx⟩ := List.mem_flatMap.1 m
 exact QJ (h.rows s ms).2 s.base (h.ok s ms).1 s.L 0 [] (by simp) (h.ok s ms).2 x mx
theorem SegS.keep {LO : Nat} {w w' : World} {v : Value} {S : List Seg} (h : SegS LO w v S) (k : ∀ q, LO <= q -> q < w.heap.size -> w'.heap[q]? = w.heap[q]?) : SegS LO w' v S := by
 refine ⟨⟨h.own.1, ?_⟩, fun s m => ⟨(h.rows s m).1, (h.rows s m).2.keep (k _ (h.rows s m).1 (h.rows s m).2.lt)⟩, h.ok, h.dis⟩
 rcases h.own.2 with z | ⟨g, cap, cur, z, lb, e, rest⟩
 ·exact Or.inl z
 ·exact Or.inr ⟨g, cap, cur, z, lb, (k g lb (Array.getElem?_eq_some_iff.1 e).1).trans e, rest⟩
theorem OvR.below {LO HI : Nat} {w0 w' : World} {Z : List FA} {v : Value} (h : OvR LO HI w0 Z v w') (hl : LO <= w0.heap.size) : Below LO w0 w' := ⟨h.os, h.tape, h.output, h.size, fun q lq => h.far q (Nat.lt_of_lt_of_le lq hl) (Or.inl lq)⟩
theorem OvR.torn {LO HI : Nat} {w0 w' : World} {Z : List FA} {A : Option Addr} {n c : Nat} (h : OvR LO HI w0 Z (.slice A n c) w') (hn : Z.length = n) (nl : n <= 16384) (hz : ∀ x ∈ Z, 0 <= x.at_) : Calls Tryz.prog 23 #[.slice A n c] w' fun e w'' => e = .returned (.bool false) /\ w'' = w' := by
 obtain ⟨R, o, l, a⟩ := h.row
 rw [hn] at o
 refine law_torn o (fun x m => ?_) nl
 obtain ⟨j, hj, rfl⟩ := List.mem_iff_getElem.1 m
 rw [a j hj (by omega)]
 have := hz _ (List.getElem_mem (show j < Z.length by omega))
 omega
theorem OvR.keep8 {LO HI : Nat} {w0 w' w'' : World} {Z : List FA} {v : Value} (h : OvR LO HI w0 Z v w') (hb : Below w'.heap.size w' w'') : OvR LO HI w0 Z v w'' := by
 obtain ⟨R, o, l, a⟩ := h.row
 exact ⟨⟨R, zT o hb, l, a⟩, fun q lq hq => (hb.block q (Nat.lt_of_lt_of_le lq h.size)).trans (h.far q lq hq), Nat.le_trans h.size hb.size, hb.os.trans h.os, hb.tape.trans h.tape, hb.output.trans h.output⟩
theorem zar {S : List Seg} {l : List Frm} (h : frms (segF S) = l) : (segF S).length = l.length := by rw [<- z7, h]
set_option maxHeartbeats 32000000 in
set_option maxRecDepth 100000 in
theorem zdl (A : Option Addr) (c : Nat) (L : List FA) (most : Int) (W : World) (E : EnvV W) (F : FrsD W W.heap.size A c L) (hm : -9223372036854775808 <= most /\ most <= 9223372036854775807) :
  Calls Tryz.prog 9 #[.slice A L.length c, .int .i64 most] W fun e w' => e = .returned (.bool true) /\ Below W.heap.size W w' := by
 have BY := zdm (zdh A c L W.heap.size W F)
 obtain ⟨bb, hbb⟩ : ∃ bb, bb = beyB L := ⟨_, rfl⟩
 have HBB := zdm hbb
 rw [<- hbb] at BY
 have HF := zdm F
 have HE := zdm E
 obtain ⟨n, hn⟩ : ∃ n, n = L.length := ⟨_, rfl⟩
 have HN := zdm hn
 rw [<- hn] at BY ⊢
 obtain ⟨l1, k1, hl1⟩ : ∃ l1 k1, qh (frms L) most = (l1, k1) := ⟨_, _, rfl⟩
 have HL1 := zdm hl1
 clear F E hbb hn hl1
 cases bb with
 | true =>
  go_enter Tryz.func9, Tryz.ntmps9
  go_wp2_with fail
  refine BY.out.mono ?_; rintro e w1 ⟨rfl, hw⟩
  rw [hw]
  clear hw
  go_wp2_with fail
  go_ret
  exact ⟨rfl, Below.refl _ _⟩
 | false =>
 have nb : n <= 134217728 /\ (∀ x ∈ L, x.b.bs.length <= 134217728) /\ (zk L).length <= 134217728 := by
  have d := of_decide_eq_false HBB.out.symm
  exact ⟨by have := HN.out; omega, fun x m => by have := bs_flatG m; omega, by omega⟩
 have HNB := zdm nb
 have sz := sq_sizes (frms L) most
 rw [HL1.out, kO] at sz
 dsimp only at sz
 have l16 : l1.length <= 16384 := by
  by_cases z : k1 = 0
  ·have := (xa (sz.2.2.1 z)).2.1
   have := sz.1
   omega
  ·rw [sz.2.2.2 z]; decide
 have H16 := zdm l16
 have TOT := zdm (show (l1.flatMap (·.bs)).length <= 140737488355328 by have := nb.2.2; omega)
 have RS := zdk A c L most W.heap.size W HF.out (Nat.le_refl _) (by rw [<- HN.out]; exact nb.1) hm
 unfold SqD at RS
 rw [<- HN.out, HL1.out] at RS
 have RS := zdm RS
 clear nb sz l16
 go_enter Tryz.func9, Tryz.ntmps9
 go_wp2_with fail
 refine BY.out.mono ?_; rintro e w1 ⟨rfl, hw⟩
 rw [hw]
 clear hw BY
 go_wp2_with fail
 refine RS.out.mono ?_; rintro e V1 ⟨Aw, cw, Lw, rfl, fw, Fw, B1⟩
 have lw : Lw.length = l1.length := by rw [<- z7, fw]
 have HB1 := zdm B1
 have HFW := zdm Fw
 have HFWE := zdm fw
 have RMC := zbX A c L W.heap.size V1 (HF.out.below B1 (Nat.le_refl _)) B1.size (by rw [<- HN.out]; exact HNB.out.1) HNB.out.2.1
 rw [<- HN.out] at RMC
 have RMC := zdm RMC
 have HLW := zdm lw
 obtain ⟨m1, hm1⟩ : ∃ m1, m1 = l1.length := ⟨_, rfl⟩
 have HM1 := zdm hm1
 rw [lw, <- hm1]
 clear RS fw Fw B1 lw hm1
 go_wp2_with fail
 refine RMC.out.mono ?_; rintro e V2 ⟨A1, c1, M, rfl, nM, fM, R2, B2⟩
 have HB2 := zdm (HB1.out.trans (B2.mono HB1.out.size))
 have HFW2 := zdm (HFW.out.below B2 (Nat.le_refl _))
 have HR2 := zdm R2
 have HM := zdm (And.intro nM fM)
 have LW2 := zdm B2.size
 have mtot : (zk (M.map RM.fa)).length <= 268435456 := by
  rw [<- kO, ZA, fM, kO]
  have := HNB.out.2.2
  omega
 have HMT := zdm mtot
 have SQ := zal A1 c1 (M.map RM.fa) most V2.heap.size V2 R2.frs (Nat.le_refl _) mtot hm
 unfold SqR at SQ
 rw [List.length_map, <- nM, ZA, fM, HL1.out] at SQ
 have SQ := zdm SQ
 clear RMC nM fM R2 B2 mtot
 go_wp2_with fail
 refine SQ.out.mono ?_; rintro e V3 ⟨va, rfl, Ca⟩
 obtain ⟨Sa, ga, fa, oka⟩ := Ca.segs TOT.out
 obtain ⟨Aa, ca, ea⟩ := jT ga.own
 subst ea
 have la : (segF Sa).length = m1 := by rw [zar fa, HM1.out]
 rw [la] at ga
 have HGA := zdm ga
 have HFA := zdm fa
 have HOKA := zdm oka
 have HLA := zdm la
 have HC3 := zdm Ca.1
 have HB3 := zdm (HB2.out.trans (Ca.1.mono HB2.out.size))
 have SR := zal A1 c1 (M.map RM.fa) most V2.heap.size V3 (HR2.out.frs.below Ca.1 (Nat.le_refl _)) Ca.1.size HMT.out hm
 unfold SqR at SR
 rw [List.length_map, <- HM.out.1, ZA, HM.out.2, HL1.out] at SR
 have SR := zdm SR
 rw [la]
 clear SQ ga fa oka la Ca
 go_wp2_with fail
 refine SR.out.mono ?_; rintro e V4 ⟨vb, rfl, Cb⟩
 obtain ⟨Sb, gb, fb, okb⟩ := Cb.segs TOT.out
 obtain ⟨Ab, cb, eb⟩ := jT gb.own
 subst eb
 have lb : (segF Sb).length = m1 := by rw [zar fb, HM1.out]
 rw [lb] at gb
 have HGB := zdm gb
 have HFB := zdm fb
 have HLB := zdm lb
 have HC4 := zdm Cb.1
 have HB4 := zdm (HB3.out.trans (Cb.1.mono HB3.out.size))
 have LV := zdm (And.intro HC3.out.size Cb.1.size)
 have FW4 := zdm ((HFW2.out.below HC3.out LW2.out).below Cb.1 (Nat.le_trans LW2.out HC3.out.size))
 have ga4 := HGA.out.below Cb.1
 have fra := (ga4.frs (by rw [HLA.out]; have := H16.out; have := HM1.out; omega)).2
 have SM1 := Zz Aa Aw ca cw (segF Sa) Lw V4.heap.size V1.heap.size V4 fra FW4.out (Nat.le_refl _) (Nat.le_trans LW2.out (Nat.le_trans HC3.out.size Cb.1.size))
 rw [HLA.out, HLW.out, <- HM1.out] at SM1
 have SM1 : Hid (Calls Tryz.prog 21 #[.slice Aa m1 ca, .slice Aw m1 cw] V4 fun e w' => e = .returned (.bool true) /\ Below V4.heap.size V4 w') := zdm (SM1.mono (fun e' w' ⟨b, e1, e2, e3⟩ => ⟨by rw [e1, e2.2 (HFA.out.trans HFWE.out.symm)], e3⟩))
 rw [lb]
 clear SR gb fb okb lb Cb ga4 fra
 go_wp2_with fail
 refine SM1.out.mono ?_; rintro e V5 ⟨rfl, B5⟩
 have frb := ((HGB.out.below B5).frs (by rw [HLB.out]; have := H16.out; have := HM1.out; omega)).2
 have lv5 : V1.heap.size <= V4.heap.size := Nat.le_trans LW2.out (Nat.le_trans LV.out.1 LV.out.2)
 have SM2 := Zz Ab Aw cb cw (segF Sb) Lw V5.heap.size V1.heap.size V5 frb (FW4.out.below B5 lv5) (Nat.le_refl _) (Nat.le_trans lv5 B5.size)
 rw [HLB.out, HLW.out, <- HM1.out] at SM2
 have SM2 : Hid (Calls Tryz.prog 21 #[.slice Ab m1 cb, .slice Aw m1 cw] V5 fun e w' => e = .returned (.bool true) /\ Below V5.heap.size V5 w') := zdm (SM2.mono (fun e' w' ⟨b, e1, e2, e3⟩ => ⟨by rw [e1, e2.2 (HFB.out.trans HFWE.out.symm)], e3⟩))
 have HB5 := zdm B5
 clear SM1 frb lv5 B5
 go_wp2_with fail
 refine SM2.out.mono ?_; rintro e V6 ⟨rfl, B6⟩
 have B46 := HB5.out.trans (B6.mono HB5.out.size)
 have B36 := HC4.out.trans (B46.mono HC4.out.size)
 have OV := law_over HGA.out B36 (by have := H16.out; have := HM1.out; omega) (fun x m => (HOKA.out x m).1)
 have OV := zdm OV
 have HB46 := zdm B46
 have HB36 := zdm B36
 clear SM2 B6 B46 B36 HB5
 go_wp2_with fail
 refine OV.out.mono ?_; rintro e V7 ⟨rfl, O7⟩
 have gb6 := HGB.out.below HB46.out
 have gb7 := gb6.keep (fun q l1 l2 => O7.far q l2 (Or.inr l1))
 have frb := (gb7.frs (by rw [HLB.out]; have := H16.out; have := HM1.out; omega)).2
 have l26 : V2.heap.size <= V6.heap.size := Nat.le_trans LV.out.1 HB36.out.size
 have BO := O7.below l26
 have lv6 : V1.heap.size <= V6.heap.size := Nat.le_trans LW2.out l26
 have B26 := HC3.out.trans (HB36.out.mono HC3.out.size)
 have FW7 := ((HFW2.out.below B26 LW2.out).below BO LW2.out)
 have SM3 := Zz Ab Aw cb cw (segF Sb) Lw V7.heap.size V1.heap.size V7 frb FW7 (Nat.le_refl _) (Nat.le_trans lv6 O7.size)
 rw [HLB.out, HLW.out, <- HM1.out] at SM3
 have SM3 : Hid (Calls Tryz.prog 21 #[.slice Ab m1 cb, .slice Aw m1 cw] V7 fun e w' => e = .returned (.bool true) /\ Below V7.heap.size V7 w') := zdm (SM3.mono (fun e' w' ⟨b, e1, e2, e3⟩ => ⟨by rw [e1, e2.2 (HFB.out.trans HFWE.out.symm)], e3⟩))
 have R7 := zdm ((HR2.out.below B26 (Nat.le_refl _)).below BO (Nat.le_refl _))
 have BW7 := zdm (HB2.out.trans ((B26.trans BO).mono HB2.out.size))
 have L27 := zdm (Nat.le_trans l26 O7.size)
 have HO7 := zdm O7
 clear OV gb6 gb7 frb l26 BO lv6 B26 FW7 O7
 go_wp2_with fail
 refine SM3.out.mono ?_; rintro e V8 ⟨rfl, B8⟩
 have TN := zdm ((HO7.out.keep8 B8).torn HLA.out (by have := H16.out; have := HM1.out; omega) (fun x m => (HOKA.out x m).2))
 have BW8 := BW7.out.trans (B8.mono BW7.out.size)
 have KP := law_kept A1 c1 M V2.heap.size A c L W.heap.size V8 (R7.out.below B8 L27.out) (HF.out.below BW8 (Nat.le_refl _)) (Nat.le_trans L27.out B8.size) BW8.size HM.out.2 (by rw [<- HM.out.1]; exact HNB.out.1) (fun y my => by
  have : (⟨y.at_, y.bs⟩ : Frm) ∈ frms L := by rw [<- HM.out.2]; exact List.mem_map_of_mem (f := fun x : RM => (⟨x.at_, x.bs⟩ : Frm)) my
  obtain ⟨z, mz, ez⟩ := List.mem_map.1 this
  have e2 := congrArg Frm.bs ez
  have e2 : z.b.bs = y.bs := e2
  rw [<- e2]
  exact HNB.out.2.1 z mz)
 rw [<- HM.out.1, <- HN.out] at KP
 have KP := zdm KP
 have HBW := zdm BW8
 have AV := zdm (fun (V : World) (hb : Below W.heap.size W V) => zdf V (HE.out.mv (Mv.below (F := []) hb) (by simp)))
 clear SM3 B8 BW8
 go_wp2_with fail
 refine TN.out.mono ?_; rintro e V9 ⟨rfl, hw⟩
 rw [hw]
 clear hw TN
 go_wp2_with fail
 refine KP.out.mono ?_; rintro e V9 ⟨rfl, B9⟩
 have HB9 := zdm (HBW.out.trans (B9.mono HBW.out.size))
 have AV := zdm (AV.out V9 HB9.out)
 clear KP B9
 go_wp2_with fail
 refine AV.out.mono ?_; rintro e V10 ⟨rfl, B10⟩
 have HBX := zdm (HB9.out.trans (B10.mono HB9.out.size))
 go_wp2_with fail
 go_ret
 exact ⟨by rfl, HBX.out⟩
end
end Go.Proofs.YtmaofighbpnbiaaGreatDoor
