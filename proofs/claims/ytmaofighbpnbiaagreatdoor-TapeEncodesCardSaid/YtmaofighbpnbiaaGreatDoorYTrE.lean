/- TapeEncodes: the walk. -/
import Derived.Test.YtmaofighbpnbiaaGreatDoorYTqZ
import Derived.Test.YtmaofighbpnbiaaGreatDoorYTpX
namespace Go.Proofs.YtmaofighbpnbiaaGreatDoor
open Go Go.RowKit Go.Sort
set_option linter.unusedVariables false
set_option linter.unusedSimpArgs false
section
theorem enc_any {w h : Int} {l : List Frm} {D : List Int} {k : Int} (e : encT w h l = (D, k)) (rng : ∀ f ∈ l, Byt f.bs) : Byt D ∧ D.length ≤ 1048576 := by
 by_cases z : k = 0
 ·subst z
  exact ⟨enc_byt e rng, (enc_parts e).2.2.2⟩
 ·have : D = [] := by
   unfold encT at e
   split at e
   ·exact (congrArg Prod.fst e).symm
   ·split at e
    ·exact (congrArg Prod.fst e).symm
    ·split at e
     ·exact (congrArg Prod.fst e).symm
     ·split at e
      ·exact (congrArg Prod.fst e).symm
      ·exact absurd (congrArg Prod.snd e).symm z
  rw [this]
  exact ⟨fun b m => (by cases m), by decide⟩
theorem bs_flat {L : List FA} {x : FA} (m : x ∈ L) : x.b.bs.length ≤ (flatB L).length := by
 induction L with
 | nil => cases m
 | cons y l ih =>
  unfold flatB at *
  rw [List.flatMap_cons, List.length_append]
  rcases List.mem_cons.1 m with rfl | m
  ·omega
  ·have := ih m; omega
theorem app_u8 {w : World} {LO n c : Nat} {A : Option Addr} {xs : List Int} (o : w.ownsRow LO 5 1 (.slice A n c) n (bts xs)) (b : Int) (hLO : LO ≤ w.heap.size) (len : n ≤ 1000000000) :
  ∃ A' c' w3, (Builtin.append_ #[27, 27] 27 #[.slice A n c, .slice (some ⟨w.heap.size, 0, none⟩) 1 1]).run Tryz.prog (w.alloc (.cells #[.int .u8 b] 5)) = .ok (.slice A' (n + 1) c') w3 ∧
   w3.ownsRow LO 5 1 (.slice A' (n + 1) c') (n + 1) (bts (xs ++ [b])) ∧ (w.alloc (.cells #[.int .u8 b] 5)).grownBy w3 (Value.slice A n c).ownBlock ∧ ((Value.slice A' (n + 1) c').ownBlock = (Value.slice A n c).ownBlock ∨ (Value.slice A' (n + 1) c').ownBlock = some (w.heap.size + 1)) := by
 obtain ⟨i0, hi0, hz0, hz1, hz2⟩ := info_parts infoB
 have bu : Below w.heap.size w (w.alloc (.cells #[.int .u8 b] 5)) := (Below.refl _ w).alloc (Nat.le_refl _) _
 obtain ⟨v', w3, r1, r2, r3, r4, r5⟩ := run_append_own_at (P := Tryz.prog) (w.alloc (.cells #[.int .u8 b] 5)) LO 27 27 5 i0 (.int .u8 0) 1 1 Tryz.underlying27 hi0 hz0 hz1 hz2 rfl (by decide) _ n _ (own_call o bu) ⟨w.heap.size, 0, none⟩ 1 1 [.int .u8 b] rfl (news1 w _ _) (by intro u hu; rw [List.mem_singleton.1 hu]; rfl) (by unfold maxLen; omega) (by omega) (Nat.le_trans hLO bu.size)
 obtain ⟨A', c', e⟩ := own_slc r2
 subst e
 refine ⟨A', c', w3, r1, by rw [bts_app]; exact r2, r3, ?_⟩
 simpa using r5
structure MidR (V4 : World) (lo hi : Nat) (V6 : World) (n : Nat) (v : Value) (xs : List Int) (w : World) : Prop where
 own : w.ownsRow V4.heap.size 5 1 v n (bts xs)
 bel : Below V4.heap.size V4 w
 mid : ∀ q, lo ≤ q → q < hi → w.heap[q]? = V6.heap[q]?
 loc : ∀ g, v.ownBlock = some g → g < lo ∨ hi ≤ g
 size : hi ≤ w.heap.size
theorem MidR.app {V4 V6 w : World} {lo hi n c : Nat} {A : Option Addr} {xs : List Int} (h : MidR V4 lo hi V6 n (.slice A n c) xs w) (b : Int) (len : n ≤ 1000000000) :
  ∃ A' c' w3, (Builtin.append_ #[27, 27] 27 #[.slice A n c, .slice (some ⟨w.heap.size, 0, none⟩) 1 1]).run Tryz.prog (w.alloc (.cells #[.int .u8 b] 5)) = .ok (.slice A' (n + 1) c') w3 ∧ MidR V4 lo hi V6 (n + 1) (.slice A' (n + 1) c') (xs ++ [b]) w3 := by
 obtain ⟨A', c', w3, r1, r2, r3, r4⟩ := app_u8 h.own b h.bel.size len
 have bu : Below w.heap.size w (w.alloc (.cells #[.int .u8 b] 5)) := (Below.refl _ w).alloc (Nat.le_refl _) _
 refine ⟨A', c', w3, r1, r2, (h.bel.trans (bu.mono h.bel.size)).grown r3 (Nat.le_trans h.bel.size bu.size) (fun k hk => ((own_call h.own bu).lt k hk).1), fun q l1 l2 => ?_, fun g hg => ?_, Nat.le_trans h.size (Nat.le_trans bu.size r3.size)⟩
 ·have lq : q < w.heap.size := Nat.lt_of_lt_of_le l2 h.size
  exact (r3.block q (Nat.lt_of_lt_of_le lq bu.size) (fun z => by have := h.loc q z.symm; omega)).trans ((bu.block q lq).trans (h.mid q l1 l2))
 ·rcases r4 with z | z
  ·exact h.loc g (by rw [← z]; exact hg)
  ·rw [z] at hg; injection hg with hg; have := h.size; omega
theorem MidR.put {V4 V6 w : World} {lo hi n c g k : Nat} {xs : List Int} {b : Int} (h : MidR V4 lo hi V6 n (.slice (some ⟨g, 0, none⟩) n c) xs w) (hk : k < n) : (∃ u, w.cell? ⟨g, k, none⟩ = some u) ∧ w.frozen? ⟨g, k, none⟩ = false ∧ MidR V4 lo hi V6 n (.slice (some ⟨g, 0, none⟩) n c) (xs.set k b) (w.setCell ⟨g, k, none⟩ (.int .u8 b)) := by
 have ln := h.own.1
 rw [bts_len] at ln
 have cl := h.own.cellAt k (by omega)
 rw [List.getElem?_eq_getElem (by rw [bts_len]; omega)] at cl
 obtain ⟨lo', lt, _⟩ := own_blk h.own
 have gl := h.loc g rfl
 refine ⟨⟨_, cl⟩, h.own.frozenAt k, ⟨?_, h.bel.setCell (p := ⟨g, k, none⟩) lo' _, fun q l1 l2 => (heap_setCell_other w _ _ _ (fun z => by have z : q = g := z; omega)).trans (h.mid q l1 l2), h.loc, by simpa using h.size⟩⟩
 have s := (h.own.stored k (.int .u8 b)).1
 have e : bts (xs.set k b) = (bts xs).set k (.int .u8 b) := by unfold bts; rw [List.map_set]
 rw [e]
 exact s
theorem own_byteD0 {w : World} {LO c : Nat} {A : Option Addr} {D : List Int} (o : w.ownsRow LO 5 1 (.slice A D.length c) D.length (bts D)) (rng : Byt D) (ln : D.length ≤ 140737488355328) : ByteD w w.heap.size ⟨A, c, D⟩ := by
 refine ⟨fun z => ?_, ?_, ln, Sees.of_own o, rng⟩
 ·rcases o.2 with ⟨q, _⟩ | ⟨g, cap, cur, q, _⟩
  ·injection q with q1 q2 q3
  ·injection q with q1 q2 q3; have z : A = none := z; rw [z] at q1; cases q1
 ·rcases o.2 with ⟨q, y⟩ | ⟨g, cap, cur, q, _, _, y, _⟩
  ·show D.length ≤ c; omega
  ·injection q with q1 q2 q3; show D.length ≤ c; rw [q3]; exact y
theorem MidR.other {V4 V6 w : World} {lo hi n : Nat} {v u : Value} {xs : List Int} {m : Nat} {ys : List Value} (h : MidR V4 lo hi V6 n v xs w) (hv : hi = V6.heap.size) (o : V6.ownsRow lo 5 1 u m ys) : w.ownsRow lo 5 1 u m ys := by
 refine ⟨o.1, ?_⟩
 rcases o.2 with z | ⟨g, cap, cur, z, lb, e, rest⟩
 ·exact Or.inl z
 ·exact Or.inr ⟨g, cap, cur, z, lb, (h.mid g lb (by rw [hv]; exact (Array.getElem?_eq_some_iff.1 e).1)).trans e, rest⟩
set_option maxHeartbeats 32000000 in
set_option maxRecDepth 100000 in
theorem tapeEncodes_walk (w h : Int) (A : Option Addr) (c : Nat) (L : List FA) (W : World) (E : EnvV W) (F : FrsD W W.heap.size A c L) :
  Calls Tryz.prog 3 #[.agg #[.int .i64 w, .int .i64 h], .slice A L.length c] W fun e w' => e = .returned (.bool true) ∧ Below W.heap.size W w' := by
 obtain ⟨Q, hQ⟩ : ∃ Q, Q = W.alloc (.cells #[.int .i64 w, .int .i64 h] 23) := ⟨_, rfl⟩
 have BQ : Below W.heap.size W Q := by rw [hQ]; exact (Below.refl _ W).alloc (Nat.le_refl _) _
 have KQ : Bk Q W.heap.size [.int .i64 w, .int .i64 h] 23 := by rw [hQ]; exact Bk.new W _ _
 have FQ := F.below BQ (Nat.le_refl _)
 have BY := Lib.hid (law_beyond A c L W.heap.size Q FQ)
 obtain ⟨bb, hbb⟩ : ∃ bb, bb = beyB L := ⟨_, rfl⟩
 have HBB := Lib.hid hbb
 rw [← hbb] at BY
 have RMC : Hid (bb = false → Calls Tryz.prog 14 #[.slice A L.length c] Q (RoomR Q L.length (frms L))) := Lib.hid (fun z => by
  have d := of_decide_eq_false (hbb.symm.trans z)
  exact law_roomy A c L W.heap.size Q FQ BQ.size (by omega) (fun x m => by have := bs_flat m; omega))
 have HF := Lib.hid F
 have HE := Lib.hid E
 have HBQ := Lib.hid BQ
 have HKQ := Lib.hid KQ
 have HQ := Lib.hid hQ
 obtain ⟨n, hn⟩ : ∃ n, n = L.length := ⟨_, rfl⟩
 have HN := Lib.hid hn
 rw [← hn] at BY RMC ⊢
 obtain ⟨D, k, hD⟩ : ∃ D k, encT w h (frms L) = (D, k) := ⟨_, _, rfl⟩
 have EA := enc_any hD (fun f mf => by
  obtain ⟨x, mx, rfl⟩ := List.mem_map.1 mf
  exact (F.ok x mx).b.rng)
 have HD := Lib.hid hD
 have HEA := Lib.hid EA
 clear hQ BQ KQ FQ F E hbb hn hD EA
 go_enter Tryz.func3, Tryz.ntmps3
 go_upto_region 1 with fail
 rw [← HQ.out]
 clear HQ
 cases bb with
 | true =>
  go_wp2_with fail
  refine BY.out.mono ?_; rintro e w1 ⟨rfl, hw⟩
  rw [hw]
  clear hw
  go_wp2_with fail
  go_ret
  exact ⟨rfl, HBQ.out⟩
 | false =>
 have nb : n ≤ 134217728 ∧ ∀ x ∈ L, x.b.bs.length ≤ 134217728 := by
  have d := of_decide_eq_false HBB.out.symm
  exact ⟨by have := HN.out; omega, fun x m => by have := bs_flat m; omega⟩
 have HNB := Lib.hid nb
 clear nb
 go_wp2_with fail
 refine BY.out.mono ?_; rintro e w1 ⟨rfl, hw⟩
 rw [hw]
 clear hw BY
 have RMC := Lib.hid (RMC.out trivial)
 go_wp2_with fail
 refine RMC.out.mono ?_; rintro e V3 ⟨A1, c1, M, rfl, nM, fM, R3, B3⟩
 have HW3 := Lib.hid (HBQ.out.trans (B3.mono HBQ.out.size))
 have K3 := HKQ.out.of_eq (B3.block _ HKQ.out.lt)
 have s0 := K3.c 0 _ rfl
 have s1 := K3.c 1 _ rfl
 have HK3 := Lib.hid K3
 have RE := r_Encode w h A c L W.heap.size V3 (HF.out.below HW3.out (Nat.le_refl _)) HW3.out.size
 rw [← HN.out] at RE
 have RE := Lib.hid RE
 have HR3 := Lib.hid R3
 have HM := Lib.hid (And.intro nM fM)
 clear RMC nM fM R3 B3 K3
 go_wp2_with fail
 refine RE.out.mono ?_; rintro e V4 ⟨v4, rfl, o4, B4⟩
 rw [HD.out] at o4 ⊢
 dsimp only at o4 ⊢
 obtain ⟨A4, c4, e4⟩ := own_slc o4
 have e4' := own_len o4 e4
 rw [e4'] at o4
 have W4 := own_byteD0 o4 HEA.out.1 (by have := HEA.out.2; omega)
 have HW4 := Lib.hid W4
 have HR4 := Lib.hid ((HR3.out.below B4 (Nat.le_refl _)))
 have HB4 := Lib.hid (HW3.out.trans (B4.mono HW3.out.size))
 have K4 := HK3.out.of_eq (B4.block _ HK3.out.lt)
 have t0 := K4.c 0 _ rfl
 have t1 := K4.c 1 _ rfl
 have HK4 := Lib.hid K4
 have RSZ := Lib.hid B4.size
 have TE := t_Encode w h A1 c1 (M.map RM.fa) V3.heap.size V4 HR4.out.frs RSZ.out
 rw [List.length_map, ← HM.out.1, fa_frms, HM.out.2] at TE
 have TE := Lib.hid TE
 subst e4'
 clear RE o4 W4 B4 K4 s0 s1
 go_wp2_with fail
 refine TE.out.mono ?_; rintro e V5 ⟨v5, rfl, o5, B5⟩
 rw [HD.out] at o5 ⊢
 dsimp only at o5 ⊢
 obtain ⟨A5, c5, e5⟩ := own_slc o5
 have e5' := own_len o5 e5
 rw [e5'] at o5
 subst e5'
 have K5 := HK4.out.of_eq (B5.block _ HK4.out.lt)
 have u0 := K5.c 0 _ rfl
 have u1 := K5.c 1 _ rfl
 have TF := t_Encode w h A1 c1 (M.map RM.fa) V3.heap.size V5 (HR4.out.frs.below B5 RSZ.out) (Nat.le_trans RSZ.out B5.size)
 rw [List.length_map, ← HM.out.1, fa_frms, HM.out.2] at TF
 have TF := Lib.hid TF
 have HO5 := Lib.hid o5
 have HB5 := Lib.hid B5
 clear TE o5 B5 K5 t0 t1 HK3 HK4
 go_wp2_with fail
 refine TF.out.mono ?_; rintro e V6 ⟨v6, rfl, o6, B6⟩
 rw [HD.out] at o6 ⊢
 dsimp only at o6 ⊢
 obtain ⟨A6, c6, e6⟩ := own_slc o6
 have e6' := own_len o6 e6
 rw [e6'] at o6
 subst e6'
 have B46 := HB5.out.trans (B6.mono HB5.out.size)
 have M0 : Hid (MidR V4 V5.heap.size V6.heap.size V6 D.length (.slice A5 D.length c5) D V6) := Lib.hid ⟨own_call HO5.out B6, B46, fun _ _ _ => rfl, fun g hg => Or.inl ((HO5.out.lt g hg).2), Nat.le_refl _⟩
 have dl := HEA.out.2
 have cv4 := conv_sees (HW4.out.below B46 (Nat.le_refl _))
 have cv5 := conv_sees (own_byteD0 (own_call HO5.out B6) HEA.out.1 (by omega))
 have cv6 := conv_sees (own_byteD0 o6 HEA.out.1 (by omega))
 have W6 := Lib.hid (own_byteD0 o6 HEA.out.1 (by omega))
 have HO6 := Lib.hid o6
 dsimp only at cv4 cv5 cv6
 clear TF o6 B6 B46 u0 u1
 obtain ⟨dn, hdn⟩ : ∃ dn, dn = D.length := ⟨_, rfl⟩
 have HDN := Lib.hid hdn
 rw [← hdn] at M0 cv4 cv5 cv6 dl ⊢
 clear hdn
 go_wp2_with fail
 clear cv4 cv5 cv6
 go_loopw [12] (fun s12 wr => ∃ (j : Nat) (xs : List Int), j ≤ dn ∧ s12 = .int .i64 (j : Int) ∧ Hid (MidR V4 V5.heap.size V6.heap.size V6 dn (.slice A5 dn c5) xs wr)) (fun s12 _ => dn - (intOf s12).toNat)
 case atStart => exact ⟨0, D, Nat.zero_le _, rfl, M0⟩
 case round =>
  obtain ⟨j, xs, hj, rfl, hm⟩ := hrel
  clear M0
  by_cases lt : j < dn
  ·obtain ⟨g, c', e⟩ := slc_some hm.out.own (fun z => by injection z with _ z _; omega)
   injection e with e1 e2 e3
   subst e1
   obtain ⟨⟨u, x1⟩, x2, x3⟩ := hm.out.put (b := 7) lt
   have HX := Lib.hid x3
   have q0 : (0 : Int) ≤ (j : Int) := by omega
   have q5 : (j : Int) < (dn : Int) := by omega
   have tn : (j : Int).toNat = j := by omega
   have wk : IntKind.i64.wrap ((j : Int) + 1) = (j : Int) + 1 := IntWalk.i64_in _ (by omega)
   clear x3 hm e2 e3
   go_wp2_with fail
   go_roundw
   case rel => exact ⟨j + 1, _, by omega, by go_num, HX⟩
   case measure => simp [intOf]; omega
  ·have e : j = dn := by omega
   subst e
   have q5 : ¬ (j : Int) < (j : Int) := by omega
   go_wp2_with fail
   go_loopw [8, 13] (fun s8 s13 wr => ∃ (i : Nat) (A' : Option Addr) (c' : Nat) (xs : List Int), i ≤ 70 ∧ s8 = .slice A' (j + i) c' ∧ s13 = .int .i64 (i : Int) ∧ Hid (MidR V4 V5.heap.size V6.heap.size V6 (j + i) (.slice A' (j + i) c') xs wr)) (fun _ s13 _ => 70 - (intOf s13).toNat)
   case atStart => exact ⟨0, A5, c5, xs, Nat.zero_le _, rfl, rfl, hm⟩
   case round =>
    obtain ⟨i, A', c', ys, hi, rfl, rfl, hm⟩ := hrel
    by_cases l7 : i < 70
    ·obtain ⟨A2, c2, w3, R, X3⟩ := hm.out.app 8 (by omega)
     have HX := Lib.hid X3
     obtain ⟨ji, hji⟩ : ∃ ji, ji = j + i := ⟨_, rfl⟩
     have hji1 : j + (i + 1) = ji + 1 := by omega
     rw [← hji] at R HX ⊢
     have HJ := Lib.hid hji1
     have p5 : (i : Int) < 70 := by omega
     have wj : IntKind.i64.wrap ((i : Int) + 1) = (i : Int) + 1 := IntWalk.i64_in _ (by omega)
     clear X3 hm hji hji1
     go_wp2_with (first | (at_builtin; refine wpList_append_go rfl (.tmp 71) (.tmp 72) 27 27 rfl _ _ _ _ rfl rfl R ?_) | fail)
     go_roundw
     case rel => exact ⟨i + 1, A2, c2, _, by omega, by rw [HJ.out], by go_num, Lib.hid (by rw [HJ.out]; exact HX.out)⟩
     case measure => simp [intOf]; omega
    ·have e : i = 70 := by omega
     subst e
     have p5 : ¬ ((70 : Nat) : Int) < 70 := by omega
     have x := hm.out
     have BW := HB4.out.trans (x.bel.mono HB4.out.size)
     have o6 : wr.ownsRow V5.heap.size 5 1 (.slice A6 D.length c6) D.length (bts D) := x.other rfl HO6.out
     have cv6 := conv_sees (own_byteD0 o6 HEA.out.1 (by have := HEA.out.2; omega))
     have cv4 := conv_sees (HW4.out.below x.bel (Nat.le_refl _))
     dsimp only at cv4 cv6
     rw [← HDN.out] at cv4 cv6
     have KP := Lib.hid (law_kept A1 c1 M V3.heap.size A c L W.heap.size wr (HR4.out.below x.bel RSZ.out) (HF.out.below BW (Nat.le_refl _)) (Nat.le_trans RSZ.out x.bel.size) BW.size HM.out.2 (by rw [← HM.out.1]; exact HNB.out.1) (fun y my => by
      have : (⟨y.at_, y.bs⟩ : Frm) ∈ frms L := by rw [← HM.out.2]; exact List.mem_map_of_mem (f := fun x : RM => (⟨x.at_, x.bs⟩ : Frm)) my
      obtain ⟨z, mz, ez⟩ := List.mem_map.1 this
      have e2 := congrArg Frm.bs ez
      have e2 : z.b.bs = y.bs := e2
      rw [← e2]
      exact HNB.out.2 z mz))
     rw [← HM.out.1, ← HN.out] at KP
     have HBW := Lib.hid BW
     have wl : IntKind.i64.wrap ((j : Int) + 70) = (j : Int) + 70 := IntWalk.i64_in _ (by omega)
     have AV := Lib.hid (fun (V : World) (hb : Below W.heap.size W V) => law_alive V (HE.out.mv (Mv.below (F := []) hb) (by simp)))
     clear x BW o6 hm
     go_wp2_with fail
     refine KP.out.mono ?_; rintro e V9 ⟨rfl, B9⟩
     have HB9 := Lib.hid (HBW.out.trans (B9.mono HBW.out.size))
     have AV := Lib.hid (AV.out V9 HB9.out)
     clear KP B9
     go_wp2_with fail
     refine AV.out.mono ?_; rintro e V10 ⟨rfl, B10⟩
     have HBX := Lib.hid (HB9.out.trans (B10.mono HB9.out.size))
     go_wp2_with fail
     go_ret
     exact ⟨by rfl, HBX.out⟩
end
end Go.Proofs.YtmaofighbpnbiaaGreatDoor
