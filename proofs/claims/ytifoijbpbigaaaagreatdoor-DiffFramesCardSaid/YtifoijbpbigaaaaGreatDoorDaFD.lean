/- What lies below tapes (kept of earlier texts: StyM, DfRi, StyQr, StyQ). -/
import Derived.Test.YtifoijbpbigaaaaGreatDoorDaFC
import Derived.Deep.DeepCutAuto
set_option linter.unusedVariables false
set_option linter.unusedSimpArgs false
namespace Go.Proofs.YtifoijbpbigaaaaGreatDoor
section
open Go.RowKit Go.Sort
structure EnvS (w : World) : Prop where
 on : ∀ k, k < 8 -> w.cell? ⟨1, k, none⟩ = some (.int .i64 (onN k))
 off : ∀ k, k < 8 -> w.cell? ⟨0, k, none⟩ = some (.int .i64 (offN k))
theorem EnvS.of_below {B : Nat} {w w' : World} (h : EnvS w) (hb : Below B w w') (hB : w.heap.size <= B) : EnvS w' where
 on := fun k hk => (hb.cell (p := ⟨1, k, none⟩) (Nat.lt_of_lt_of_le (show 1 < w.heap.size from block_lt_of_cell (h.on 0 (by decide))) hB)).trans (h.on k hk)
 off := fun k hk => (hb.cell (p := ⟨0, k, none⟩) (Nat.lt_of_lt_of_le (show 0 < w.heap.size from block_lt_of_cell (h.off 0 (by decide))) hB)).trans (h.off k hk)
def xP (w : World) (L : List Int) (e : Ending) (w' : World) : Prop := ∃ v, e = .returned v /\ w'.ownsRow w.heap.size 3 1 v L.length (ints L) /\ Below w.heap.size w w'
theorem qT {w : World} {base n : Nat} {T : TypeId} {v : Value} {xs : List Value} (h : w.ownsRow base T 1 v n xs) : ∃ A c, v = .slice A n c := by
 rcases (xK h).2 with ⟨rfl, rfl⟩ | ⟨g, c, rfl, _⟩
 ·exact ⟨none, 0, rfl⟩
 ·exact ⟨_, c, rfl⟩
theorem jf {w : World} {base base' n : Nat} {T : TypeId} {v : Value} {xs : List Value} (h : w.ownsRow base T 1 v n xs) (hb : base' <= base) : w.ownsRow base' T 1 v n xs := by
 refine ⟨h.1, h.2.imp id ?_⟩
 rintro ⟨g, cap, cur, e, b, r⟩
 exact ⟨g, cap, cur, e, Nat.le_trans hb b, r⟩
theorem on_at0 : ∀ W : World, (Instr.index 122 (.agg #[.int .i64 1, .int .i64 2, .int .i64 3, .int .i64 4, .int .i64 5, .int .i64 7, .int .i64 8, .int .i64 9]) (.int .i64 0)).run Tryz.prog W = .ok (.int .i64 1) W := fun _ => by kernel_rfl
theorem on_at1 : ∀ W : World, (Instr.index 122 (.agg #[.int .i64 1, .int .i64 2, .int .i64 3, .int .i64 4, .int .i64 5, .int .i64 7, .int .i64 8, .int .i64 9]) (.int .i64 1)).run Tryz.prog W = .ok (.int .i64 2) W := fun _ => by kernel_rfl
theorem on_at2 : ∀ W : World, (Instr.index 122 (.agg #[.int .i64 1, .int .i64 2, .int .i64 3, .int .i64 4, .int .i64 5, .int .i64 7, .int .i64 8, .int .i64 9]) (.int .i64 2)).run Tryz.prog W = .ok (.int .i64 3) W := fun _ => by kernel_rfl
theorem on_at3 : ∀ W : World, (Instr.index 122 (.agg #[.int .i64 1, .int .i64 2, .int .i64 3, .int .i64 4, .int .i64 5, .int .i64 7, .int .i64 8, .int .i64 9]) (.int .i64 3)).run Tryz.prog W = .ok (.int .i64 4) W := fun _ => by kernel_rfl
theorem on_at4 : ∀ W : World, (Instr.index 122 (.agg #[.int .i64 1, .int .i64 2, .int .i64 3, .int .i64 4, .int .i64 5, .int .i64 7, .int .i64 8, .int .i64 9]) (.int .i64 4)).run Tryz.prog W = .ok (.int .i64 5) W := fun _ => by kernel_rfl
theorem on_at5 : ∀ W : World, (Instr.index 122 (.agg #[.int .i64 1, .int .i64 2, .int .i64 3, .int .i64 4, .int .i64 5, .int .i64 7, .int .i64 8, .int .i64 9]) (.int .i64 5)).run Tryz.prog W = .ok (.int .i64 7) W := fun _ => by kernel_rfl
theorem on_at6 : ∀ W : World, (Instr.index 122 (.agg #[.int .i64 1, .int .i64 2, .int .i64 3, .int .i64 4, .int .i64 5, .int .i64 7, .int .i64 8, .int .i64 9]) (.int .i64 6)).run Tryz.prog W = .ok (.int .i64 8) W := fun _ => by kernel_rfl
theorem on_at7 : ∀ W : World, (Instr.index 122 (.agg #[.int .i64 1, .int .i64 2, .int .i64 3, .int .i64 4, .int .i64 5, .int .i64 7, .int .i64 8, .int .i64 9]) (.int .i64 7)).run Tryz.prog W = .ok (.int .i64 9) W := fun _ => by kernel_rfl
theorem on_at (k : Nat) (h : k < 8) (W : World) : (Instr.index 122 (.agg #[.int .i64 1, .int .i64 2, .int .i64 3, .int .i64 4, .int .i64 5, .int .i64 7, .int .i64 8, .int .i64 9]) (.int .i64 (k : Int))).run Tryz.prog W = .ok (.int .i64 (onN k)) W := by
 have : k = 0 \/ k = 1 \/ k = 2 \/ k = 3 \/ k = 4 \/ k = 5 \/ k = 6 \/ k = 7 := by omega
 rcases this with rfl | rfl | rfl | rfl | rfl | rfl | rfl | rfl
 ·exact on_at0 W
 ·exact on_at1 W
 ·exact on_at2 W
 ·exact on_at3 W
 ·exact on_at4 W
 ·exact on_at5 W
 ·exact on_at6 W
 ·exact on_at7 W
set_option maxHeartbeats 8000000 in
set_option maxRecDepth 100000 in
theorem Xr (f t : Sty) (w : World) (E : EnvS w) : Calls Tryz.prog 67 #[styV f.fg f.bg f.at_, styV t.fg t.bg t.at_] w (xP w (zR f t)) := by
 have E := Vd E
 obtain ⟨ff, fb, fa⟩ := f
 obtain ⟨tf, tb, ta⟩ := t
 have PL : Hid (zR ⟨ff, fb, fa⟩ ⟨tf, tb, ta⟩ = if (⟨plC ff, plC fb, fa⟩ : Sty) = ⟨plC tf, plC tb, ta⟩ then [] else if zZ (twoL ⟨plC tf, plC tb, ta⟩) < zZ (oneL ⟨plC ff, plC fb, fa⟩ ⟨plC tf, plC tb, ta⟩) then twoL ⟨plC tf, plC tb, ta⟩ else oneL ⟨plC ff, plC fb, fa⟩ ⟨plC tf, plC tb, ta⟩) := Vd rfl
 have I1 := qA tf
 have I2 := qA tb
 have I1 := Vd I1
 have I2 := Vd I2
 suffices H : ∀ L, Hid (L = zR ⟨ff, fb, fa⟩ ⟨tf, tb, ta⟩) -> Calls Tryz.prog 67 #[styV ff fb fa, styV tf tb ta] w (xP w L) from H _ (Vd rfl)
 intro L HL
 have PL : Hid (L = _) := Vd (HL.out.trans PL.out)
 clear HL
 go_enter Tryz.func67, Tryz.ntmps67
 go_upto_region 1 with fail
 go_cut [] from 13 to 16 (fun wx => C3 wx w.heap.size (.int .i32 (plC ff)) (.int .i32 (plC fb)) (.int .u8 (bI fa)) /\ C3 wx (w.heap.size + 1) (.int .i32 (plC tf)) (.int .i32 (plC tb)) (.int .u8 (bI ta)) /\ Below w.heap.size w wx)
 case first =>
  obtain ⟨W, hW⟩ : ∃ W, W = (w.alloc (.cells #[.int .i32 ff, .int .i32 fb, .int .u8 (bI fa)] 56)).alloc (.cells #[.int .i32 tf, .int .i32 tb, .int .u8 (bI ta)] 56) := ⟨_, rfl⟩
  have k0 : C3 W w.heap.size (.int .i32 ff) (.int .i32 fb) (.int .u8 (bI fa)) := by subst hW; constructor <;> simp [go_sem]
  have k1 : C3 W (w.heap.size + 1) (.int .i32 tf) (.int .i32 tb) (.int .u8 (bI ta)) := by subst hW; constructor <;> simp [go_sem]
  have hb : Below w.heap.size w W := by subst hW; go_grown
  rw [<- hW]
  clear hW
  have g00 := fun d os => ((k0.regrown d os).c0)
  have g01 := fun d os => ((k0.regrown d os).c1)
  have g02 := fun d os => ((k0.regrown d os).c2)
  have g10 := fun d os => ((k1.regrown d os).c0)
  have g11 := fun d os => ((k1.regrown d os).c1)
  have g12 := fun d os => ((k1.regrown d os).c2)
  refine Xc 4 (by kernel_rfl) (by kernel_rfl) ?_
  simp only [Vg, Vh, Vi, Vj]
  repeat (quiet_step (exact (vu _ _ _).regrown))
  refine wpQuiet_nil ?_
  intro _ hw'
  obtain ⟨⟨dq, osq⟩, hw''⟩ := hw'
  subst hw''
  have hb1 := hb.trans ((below_regrown W dq osq).mono hb.size)
  have h0 := k0.regrown dq osq
  have h1 := k1.regrown dq osq
  clear g00 g01 g02 g10 g11 g12 k0 k1 hb
  generalize grow (redrawn W dq) osq = W1 at *
  have K0 := Vd h0
  have K1 := Vd h1
  obtain ⟨p0, p1, p2, r0, r1, r2⟩ := h0
  obtain ⟨q0, q1, q2, s0, s1, s2⟩ := h1
  go_wp2_with fail
  go_meet
  refine ⟨?_, ?_, ?_⟩
  ·exact (((K0.out.put _ _ _).far (by omega)).far (by omega)).far (by omega)
  ·exact (((K1.out.far (by omega)).far (by omega)).far (by omega)).put _ _ _
  ·exact (((((hb1.setCell Vf _).setCell Vf _).setCell Vf _).setCell (Nat.le_succ _) _).setCell (Nat.le_succ _) _).setCell (Nat.le_succ _) _
 case rest =>
  obtain ⟨c0, c1, hb⟩ := hcut
  have C0 := Vd c0
  have C1 := Vd c1
  have EW := Vd (E.out.of_below hb Vf)
  have HB := Vd hb
  obtain ⟨p0, p1, p2, r0, r1, r2⟩ := c0
  obtain ⟨q0, q1, q2, s0, s1, s2⟩ := c1
  clear hb
  generalize plC ff = pf at *
  generalize plC fb = pb at *
  generalize plC tf = qf at *
  generalize plC tb = qb at *
  obtain ⟨β, hβ⟩ : ∃ β : Bool, β = decide ((⟨pf, pb, fa⟩ : Sty) = ⟨qf, qb, ta⟩) := ⟨_, rfl⟩
  have HE := Vd hβ
  clear hβ
  go_upto_region 2 with fail
  go_cut [19] from 17 to 19 (fun s19 wx => s19 = .bool β /\ wx = wc)
  case first =>
   by_cases e1 : pf = qf
   all_goals by_cases e2 : pb = qb
   all_goals by_cases e3 : fa = ta
   all_goals
    first
     | (have hb : β = true := by rw [HE.out, e1, e2, e3]; exact decide_eq_true rfl)
     | (have hb : β = false := by rw [HE.out]; apply decide_eq_false; intro h; injection h with h1 h2 h3; first | exact e1 h1 | exact e2 h2 | exact e3 h3)
    have hb := Vd hb
    have E3 := Vd (fun h : bI fa = bI ta => jV h)
    first | subst e3 | (have n3 : ¬ bI fa = bI ta := fun h => e3 (jV h))
    first | subst e1 | skip
    first | subst e2 | skip
    go_wp2_with fail
    go_meet
    exact ⟨by rw [hb.out], rfl⟩
  case rest =>
   obtain ⟨rfl, rfl⟩ := hcut
   cases β with
   | true =>
    have L0 : Hid (L = []) := Vd (by rw [PL.out, if_pos (of_decide_eq_true HE.out.symm)])
    go_wp2_with fail
    go_ret
    exact ⟨_, rfl, by rw [L0.out]; exact World.ownsRow_nil _ _ _ _, HB.out⟩
   | false =>
    have PL' : Hid (L = if zZ (twoL ⟨qf, qb, ta⟩) < zZ (oneL ⟨pf, pb, fa⟩ ⟨qf, qb, ta⟩) then twoL ⟨qf, qb, ta⟩ else oneL ⟨pf, pb, fa⟩ ⟨qf, qb, ta⟩) := Vd (by rw [PL.out, if_neg (of_decide_eq_false HE.out.symm)])
    clear PL HE
    obtain ⟨w0, h0⟩ : ∃ w0, w0 = wc := ⟨_, rfl⟩
    subst h0
    have l0 := block_lt_of_cell p0
    have l1 := block_lt_of_cell q0
    simp only at l0 l1
    have P0 : Pair w0 (w0.alloc (.cells #[.int .i64 0] 3)) (.slice none 0 0) (.slice (some ⟨w0.heap.size, 0, none⟩) 1 1) [] [0] :=
     ⟨World.ownsRow_nil _ _ _ _, ⟨rfl, Or.inr ⟨w0.heap.size, 1, #[.int .i64 0], rfl, Vf, Array.getElem?_push_size, by simp, by unfold maxLen; simp, by simp, rfl⟩⟩, (fun g h => by cases h), (Below.refl _ _).alloc Vf _⟩
    go_upto_region 6 with fail
    go_quiet (fail)
    obtain ⟨G, hG⟩ : ∃ G : B8, G = fa &&& ~~~ta := ⟨_, rfl⟩
    obtain ⟨lam, hlam⟩ : ∃ lam : Bool, lam = qy fa ta := ⟨_, rfl⟩
    have b3 : bits .and .u8 (bI G) 3 = bI (G &&& 3#8) := kW G 3 (by decide)
    have b3' : bits .and .u8 (bI ta) 3 = bI (ta &&& 3#8) := kW ta 3 (by decide)
    have bl : (bI (G &&& 3#8) != 0) = lam := by
     rw [hlam, hG]
     unfold qy
     rw [Bool.eq_iff_iff, bne_iff_ne, bne_iff_ne]
     constructor
     ·intro h e; apply h; rw [show fa &&& ~~~ta &&& 3#8 = 0 from e]; rfl
     ·intro h e; apply h; exact jV (b := 0) e
    rw [<- hG]
    have HG := Vd hG
    have HLAM := Vd hlam
    have P1 : Pair w0 ((w0.alloc (.cells #[.int .i64 0] 3)).drewN nq) (.slice none 0 0) (.slice (some ⟨w0.heap.size, 0, none⟩) 1 1) [] [0] := ⟨P0.o1, P0.o2, P0.ap, below_drewN P0.be _⟩
    obtain ⟨W2, hW2⟩ : ∃ W2, W2 = ((w0.alloc (.cells #[.int .i64 0] 3)).drewN nq) := ⟨_, rfl⟩
    rw [<- hW2] at P1
    rw [<- hW2]
    clear hW2
    have C1' : C3 W2 (w.heap.size + 1) (.int .i32 qf) (.int .i32 qb) (.int .u8 (bI ta)) := C1.out.keep P1.be l1
    obtain ⟨q0', q1', q2', s0', s1', s2'⟩ := C1'
    have P1 := Vd P1
    clear hG hlam P0
    obtain ⟨V6, hV6⟩ : ∃ V6, V6 = Value.slice (some ⟨w0.heap.size, 0, none⟩) 1 1 := ⟨_, rfl⟩
    rw [<- hV6] at P1
    have HV6 := Vd hV6
    go_upto_if 34 with fail
    rw [<- hV6]
    clear hV6
    go_cut [5, 8] from 35 to 42 (fun s5 s8 wx => s8 = .int .u8 (bI ((ta &&& ~~~fa) ||| (if lam = true then ta &&& 3#8 else 0#8))) /\ Hid (Pair w0 wx s5 V6 (if lam = true then [22] else []) [0]))
    case first =>
     cases lam with
     | true =>
      go_wp2_with (at_builtin; refine jN P1.out (.tmp 35) (.tmp 36) 22 (by simp) rfl rfl rfl rfl ?_; intro v' w' P2; have hc2 := (P2.out.be.cell (p := ⟨w.heap.size + 1, 2, none⟩) l1).trans q2)
      go_meet
      exact ⟨rfl, P2⟩
     | false =>
      go_wp2_with fail
      go_meet
      exact ⟨by simp, P1⟩
    case rest =>
     obtain ⟨rfl, P2⟩ := hcut
     obtain ⟨CO, hCO⟩ : ∃ CO : B8, CO = (ta &&& ~~~fa) ||| (if lam = true then ta &&& 3#8 else 0#8) := ⟨_, rfl⟩
     obtain ⟨R1, hR1⟩ : ∃ R1 : List Int, R1 = (if lam = true then [22] else []) := ⟨_, rfl⟩
     rw [<- hCO]
     rw [<- hR1] at P2
     have HCO := Vd hCO
     have HR1 := Vd hR1
     have R1L : R1.length <= 1 := by rw [hR1]; split <;> simp
     clear hCO hR1 P1 b3 b3' bl
     go_wp2_with fail
     go_loopw [10, 5] (fun s10 s5 wr => ∃ k : Nat, 2 <= k /\ k <= 8 /\ s10 = .int .i64 k /\ Hid (Pair w0 wr s5 V6 (R1 ++ tkK G k) [0])) (fun s10 _ _ => 8 - (intOf s10).toNat)
     case atStart => exact ⟨2, by omega, by omega, rfl, Vd (by rw [Qm, List.append_nil]; exact P2.out)⟩
     case round =>
      obtain ⟨k, k2, k8, rfl, P3⟩ := hrel
      by_cases lt : k < 8
      ·have hb := x9 G k lt
       have nx := Ql G k k2
       have lb := kF G k
       have GB := bI_lt G
       have hs : bI G / 2 ^ min (Int.toNat (k : Int)) 8 = bI G / 2 ^ k := by rw [Int.toNat_natCast, Nat.min_eq_left (by omega)]
       have NX := Vd nx
       have ho := (EW.out.of_below P3.out.be Vf).off k lt
       clear nx
       cases e : G.getLsbD k
       all_goals
        rw [e] at hb
        have NX := NX.out
        rw [e] at NX
        simp only [Bool.false_eq_true, if_false, if_true] at hb NX
        have NX := Vd NX
        clear e
       ·go_wp2_with fail
        go_roundw
        case rel => exact ⟨k + 1, by omega, by omega, by go_num, Vd (by rw [NX.out]; exact P3.out)⟩
        case measure => simp [intOf]; omega
       ·go_wp2_with (at_builtin; refine jN P3.out (.tmp 52) (.tmp 56) (offN k) (by rw [List.length_append]; omega) rfl rfl rfl rfl ?_; intro v' w' P4)
        go_roundw
        case rel => exact ⟨k + 1, by omega, by omega, by go_num, Vd (by rw [NX.out, <- List.append_assoc]; exact P4.out)⟩
        case measure => simp [intOf]; omega
      ·have ek : k = 8 := by omega
       subst ek
       rw [kG] at P3
       obtain ⟨R2, hR2⟩ : ∃ R2, R2 = R1 ++ jw G := ⟨_, rfl⟩
       rw [<- hR2] at P3
       have R2L : R2.length <= 9 := by rw [hR2, List.length_append]; have := kF G 8; rw [kG] at this; omega
       have HR2 := Vd hR2
       have EV := EW.out.of_below P3.out.be Vf
       have n0 : wr.cell? ⟨1, 0, none⟩ = some (.int .i64 1) := EV.on 0 (by decide)
       have n1 : wr.cell? ⟨1, 1, none⟩ = some (.int .i64 2) := EV.on 1 (by decide)
       have n2 : wr.cell? ⟨1, 2, none⟩ = some (.int .i64 3) := EV.on 2 (by decide)
       have n3 : wr.cell? ⟨1, 3, none⟩ = some (.int .i64 4) := EV.on 3 (by decide)
       have n4 : wr.cell? ⟨1, 4, none⟩ = some (.int .i64 5) := EV.on 4 (by decide)
       have n5 : wr.cell? ⟨1, 5, none⟩ = some (.int .i64 7) := EV.on 5 (by decide)
       have n6 : wr.cell? ⟨1, 6, none⟩ = some (.int .i64 8) := EV.on 6 (by decide)
       have n7 : wr.cell? ⟨1, 7, none⟩ = some (.int .i64 9) := EV.on 7 (by decide)
       clear hR2 EV
       go_wp2_with fail
       clear n0 n1 n2 n3 n4 n5 n6 n7
       go_loopw [59, 5, 6] (fun s59 s5 s6 wx => ∃ k : Nat, k <= 8 /\ s59 = .int .i64 k /\ Hid (Pair w0 wx s5 s6 (R2 ++ stK CO k) ([0] ++ stK ta k))) (fun s59 _ _ _ => 8 - (intOf s59).toNat)
       case atStart => exact ⟨0, by omega, rfl, Vd (by rw [show stK CO 0 = [] from rfl, show stK ta 0 = [] from rfl, List.append_nil, List.append_nil]; exact P3.out)⟩
       case round =>
        obtain ⟨k, k8, rfl, P4⟩ := hrel
        by_cases lt : k < 8
        ·have hb1 := x9 CO k lt
         have hb2 := x9 ta k lt
         have nx1 := kE CO k
         have nx2 := kE ta k
         have lb1 := xN CO k
         have lb2 := xN ta k
         have GB1 := bI_lt CO
         have GB2 := bI_lt ta
         have hs1 : bI CO / 2 ^ min (Int.toNat (k : Int)) 8 = bI CO / 2 ^ k := by rw [Int.toNat_natCast, Nat.min_eq_left (by omega)]
         have hs2 : bI ta / 2 ^ min (Int.toNat (k : Int)) 8 = bI ta / 2 ^ k := by rw [Int.toNat_natCast, Nat.min_eq_left (by omega)]
         have ia := on_at k lt
         have NX1 := Vd nx1
         have NX2 := Vd nx2
         have ct := (C1.out.keep P4.out.be l1).c2
         clear nx1 nx2
         cases e1 : CO.getLsbD k
         all_goals cases e2 : ta.getLsbD k
         all_goals
          rw [e1] at hb1
          rw [e2] at hb2
          have NX1 := NX1.out
          have NX2 := NX2.out
          rw [e1] at NX1
          rw [e2] at NX2
          simp only [Bool.false_eq_true, if_false, if_true] at hb1 hb2 NX1 NX2
          have NX1 := Vd NX1
          have NX2 := Vd NX2
          clear e1 e2
         ·go_wp2_with fail
          go_roundw
          case rel => first | exact ⟨k + 1, by omega, by go_num, Vd (by rw [NX1.out, NX2.out]; exact P4.out)⟩ | ((repeat apply Exists.intro); exact ⟨⟨k + 1, by omega, by go_num, Vd (by rw [NX1.out, NX2.out]; exact P4.out)⟩, rfl⟩)
          case measure => simp [intOf]; omega
         ·go_wp2_with (at_builtin; refine Qk P4.out (.tmp 78) (.tmp 80) (onN k) (by rw [List.length_append]; simp; omega) rfl rfl rfl rfl ?_; intro v' w' P5)
          go_roundw
          case rel => first | exact ⟨k + 1, by omega, by go_num, Vd (by rw [NX1.out, NX2.out, <- List.append_assoc]; exact P5.out)⟩ | ((repeat apply Exists.intro); exact ⟨⟨k + 1, by omega, by go_num, Vd (by rw [NX1.out, NX2.out, <- List.append_assoc]; exact P5.out)⟩, rfl⟩)
          case measure => simp [intOf]; omega
         ·go_wp2_with (at_builtin; refine jN P4.out (.tmp 68) (.tmp 70) (onN k) (by rw [List.length_append]; omega) rfl rfl rfl rfl ?_; intro v' w' P5; have ct5 := (C1.out.keep P5.out.be l1).c2)
          go_roundw
          case rel => first | exact ⟨k + 1, by omega, by go_num, Vd (by rw [NX1.out, NX2.out, <- List.append_assoc]; exact P5.out)⟩ | ((repeat apply Exists.intro); exact ⟨⟨k + 1, by omega, by go_num, Vd (by rw [NX1.out, NX2.out, <- List.append_assoc]; exact P5.out)⟩, rfl⟩)
          case measure => simp [intOf]; omega
         ·go_wp2_with (first | (at_builtin; refine Qk P5.out (.tmp 78) (.tmp 80) (onN k) (by rw [List.length_append]; simp; omega) rfl rfl rfl rfl ?_; intro v' w' P6) | (at_builtin; refine jN P4.out (.tmp 68) (.tmp 70) (onN k) (by rw [List.length_append]; omega) rfl rfl rfl rfl ?_; intro v' w' P5; have ct5 := (C1.out.keep P5.out.be l1).c2))
          go_roundw
          case rel => first | exact ⟨k + 1, by omega, by go_num, Vd (by rw [NX1.out, NX2.out, <- List.append_assoc, <- List.append_assoc]; exact P6.out)⟩ | ((repeat apply Exists.intro); exact ⟨⟨k + 1, by omega, by go_num, Vd (by rw [NX1.out, NX2.out, <- List.append_assoc, <- List.append_assoc]; exact P6.out)⟩, rfl⟩)
          case measure => simp [intOf]; omega
        ·have ek : k = 8 := by omega
         subst ek
         rw [xO, xO] at P4
         obtain ⟨A0, hA0⟩ : ∃ A0, A0 = R2 ++ setL CO := ⟨_, rfl⟩
         obtain ⟨B0, hB0⟩ : ∃ B0, B0 = [0] ++ setL ta := ⟨_, rfl⟩
         rw [<- hA0, <- hB0] at P4
         have LA0 : A0.length <= 20 := by rw [hA0, List.length_append]; have := (xD CO).2.2; omega
         have LB0 : B0.length <= 20 := by rw [hB0, List.length_append]; have := (xD ta).2.2; simp; omega
         have HA0 := Vd hA0
         have HB0 := Vd hB0
         clear hA0 hB0
         obtain ⟨x0, x1, x2, _, _, _⟩ := C0.out.keep P4.out.be l0
         obtain ⟨y0, y1, y2, _, _, _⟩ := C1.out.keep P4.out.be l1
         obtain ⟨A1, hA1⟩ : ∃ A1, A1 = A0 ++ (if pf = qf then [] else colL qf 30) := ⟨_, rfl⟩
         have LA1 : A1.length <= 25 := by
          rw [hA1, List.length_append]
          have := qG qf 30
          split
          ·simp; omega
          ·omega
         have HA1 := Vd hA1
         clear hA1
         go_upto_if 87 with fail
         go_cut [5] from 87 to 91 (fun s5 wx => Hid (Pair w0 wx s5 u6 A1 B0))
         case first =>
          by_cases c : pf = qf
          ·have g : (pf != qf) = false := by rw [c]; simp
           have e : Hid (A1 = A0) := Vd (by rw [HA1.out, if_pos c, List.append_nil])
           clear c
           go_wp2_with fail
           go_meet
           exact Vd (by rw [e.out]; exact P4.out)
          ·have g : (pf != qf) = true := by rw [bne_iff_ne]; exact c
           have e : Hid (A1 = A0 ++ colL qf 30) := Vd (by rw [HA1.out, if_neg c])
           clear c
           go_wp2_with fail
           refine (kD w0.heap.size _ A0 qf 30 I1.out (by decide) (by decide) (by omega) _ P4.out.be.size P4.out.o1).mono ?_
           rintro e' w' ⟨v', rfl, h1, h2, h3⟩
           have P' := Vd (P4.out.one h1 h2 h3)
           clear h1 h2 h3
           go_wp2_with fail
           go_meet
           exact Vd (by rw [e.out]; exact P'.out)
         case rest =>
          have P5 := hcut
          clear hcut
          obtain ⟨x0, x1, x2, _, _, _⟩ := C0.out.keep P5.out.be l0
          obtain ⟨y0, y1, y2, _, _, _⟩ := C1.out.keep P5.out.be l1
          obtain ⟨B2, hB2⟩ : ∃ B2, B2 = B0 ++ (if qf = 0 then [] else colL qf 30) := ⟨_, rfl⟩
          have LB2 : B2.length <= 30 := by
           rw [hB2, List.length_append]
           have := qG qf 30
           split
           ·simp; omega
           ·omega
          have HB2 := Vd hB2
          clear hB2
          go_upto_if 94 with fail
          go_cut [6] from 94 to 98 (fun s6 wx => Hid (Pair w0 wx u5 s6 A1 B2))
          case first =>
           by_cases c : qf = 0
           ·have g : (qf != 0) = false := by rw [c]; simp
            have e : Hid (B2 = B0) := Vd (by rw [HB2.out, if_pos c, List.append_nil])
            clear c
            go_wp2_with fail
            go_meet
            exact Vd (by rw [e.out]; exact P5.out)
           ·have g : (qf != 0) = true := by rw [bne_iff_ne]; exact c
            have e : Hid (B2 = B0 ++ colL qf 30) := Vd (by rw [HB2.out, if_neg c])
            clear c
            go_wp2_with fail
            refine (kD w0.heap.size _ B0 qf 30 I1.out (by decide) (by decide) (by omega) _ P5.out.be.size P5.out.o2).mono ?_
            rintro e' w' ⟨v', rfl, h1, h2, h3⟩
            have P' := Vd (P5.out.two h1 h2 h3)
            clear h1 h2 h3
            go_wp2_with fail
            go_meet
            exact Vd (by rw [e.out]; exact P'.out)
          case rest =>
           have P6 := hcut
           clear hcut
           obtain ⟨x0, x1, x2, _, _, _⟩ := C0.out.keep P6.out.be l0
           obtain ⟨y0, y1, y2, _, _, _⟩ := C1.out.keep P6.out.be l1
           obtain ⟨A3, hA3⟩ : ∃ A3, A3 = A1 ++ (if pb = qb then [] else colL qb 40) := ⟨_, rfl⟩
           have LA3 : A3.length <= 35 := by
            rw [hA3, List.length_append]
            have := qG qb 40
            split
            ·simp; omega
            ·omega
           have HA3 := Vd hA3
           clear hA3
           go_upto_if 103 with fail
           go_cut [5] from 103 to 107 (fun s5 wx => Hid (Pair w0 wx s5 u6 A3 B2))
           case first =>
            by_cases c : pb = qb
            ·have g : (pb != qb) = false := by rw [c]; simp
             have e : Hid (A3 = A1) := Vd (by rw [HA3.out, if_pos c, List.append_nil])
             clear c
             go_wp2_with fail
             go_meet
             exact Vd (by rw [e.out]; exact P6.out)
            ·have g : (pb != qb) = true := by rw [bne_iff_ne]; exact c
             have e : Hid (A3 = A1 ++ colL qb 40) := Vd (by rw [HA3.out, if_neg c])
             clear c
             go_wp2_with fail
             refine (kD w0.heap.size _ A1 qb 40 I2.out (by decide) (by decide) (by omega) _ P6.out.be.size P6.out.o1).mono ?_
             rintro e' w' ⟨v', rfl, h1, h2, h3⟩
             have P' := Vd (P6.out.one h1 h2 h3)
             clear h1 h2 h3
             go_wp2_with fail
             go_meet
             exact Vd (by rw [e.out]; exact P'.out)
           case rest =>
            have P7 := hcut
            clear hcut
            obtain ⟨x0, x1, x2, _, _, _⟩ := C0.out.keep P7.out.be l0
            obtain ⟨y0, y1, y2, _, _, _⟩ := C1.out.keep P7.out.be l1
            obtain ⟨B4, hB4⟩ : ∃ B4, B4 = B2 ++ (if qb = 0 then [] else colL qb 40) := ⟨_, rfl⟩
            have LB4 : B4.length <= 40 := by
             rw [hB4, List.length_append]
             have := qG qb 40
             split
             ·simp; omega
             ·omega
            have HB4 := Vd hB4
            clear hB4
            go_upto_if 110 with fail
            go_cut [6] from 110 to 114 (fun s6 wx => Hid (Pair w0 wx u5 s6 A3 B4))
            case first =>
             by_cases c : qb = 0
             ·have g : (qb != 0) = false := by rw [c]; simp
              have e : Hid (B4 = B2) := Vd (by rw [HB4.out, if_pos c, List.append_nil])
              clear c
              go_wp2_with fail
              go_meet
              exact Vd (by rw [e.out]; exact P7.out)
             ·have g : (qb != 0) = true := by rw [bne_iff_ne]; exact c
              have e : Hid (B4 = B2 ++ colL qb 40) := Vd (by rw [HB4.out, if_neg c])
              clear c
              go_wp2_with fail
              refine (kD w0.heap.size _ B2 qb 40 I2.out (by decide) (by decide) (by omega) _ P7.out.be.size P7.out.o2).mono ?_
              rintro e' w' ⟨v', rfl, h1, h2, h3⟩
              have P' := Vd (P7.out.two h1 h2 h3)
              clear h1 h2 h3
              go_wp2_with fail
              go_meet
              exact Vd (by rw [e.out]; exact P'.out)
            case rest =>
             have P8 := hcut
             clear hcut
             have OA : Hid (A3 = oneL ⟨pf, pb, fa⟩ ⟨qf, qb, ta⟩) := Vd (by
              rw [HA3.out, HA1.out, HA0.out, HR2.out, HR1.out, HG.out, HCO.out, HLAM.out]
              rfl)
             have OB : Hid (B4 = twoL ⟨qf, qb, ta⟩) := Vd (by
              rw [HB4.out, HB2.out, HB0.out]
              rfl)
             have RA : ∀ x ∈ A3, 0 <= x /\ x < 1000 := by rw [OA.out]; exact vd _ _ I1.out I2.out
             have RB : ∀ x ∈ B4, 0 <= x /\ x < 1000 := by rw [OB.out]; exact ve _ I1.out I2.out
             obtain ⟨Aa, ca, ea⟩ := qT P8.out.o1
             obtain ⟨Ab, cb, eb⟩ := qT P8.out.o2
             subst ea eb
             have ZA := Vd (Qi Aa ca A3 RA (by omega) wc (Sees.of_own P8.out.o1))
             have ZB := Vd (Qi Ab cb B4 RB (by omega) wc (Sees.of_own P8.out.o2))
             have PLL : Hid (L = if zZ B4 < zZ A3 then B4 else A3) := Vd (by rw [PL'.out, OA.out, OB.out])
             have BB := Vd (HB.out.trans (P8.out.be.mono HB.out.size))
             clear RA RB PL'
             go_wp2_with fail
             refine ZB.out.mono ?_; rintro e' w' ⟨rfl, rfl⟩
             go_wp2_with fail
             refine ZA.out.mono ?_; rintro e' w' ⟨rfl, rfl⟩
             by_cases lt : zZ B4 < zZ A3
             ·have LL : Hid (L = B4) := Vd (by rw [PLL.out, if_pos lt])
              go_wp2_with fail
              go_ret
              exact ⟨_, rfl, by rw [LL.out]; exact jf P8.out.o2 HB.out.size, BB.out⟩
             ·have LL : Hid (L = A3) := Vd (by rw [PLL.out, if_neg lt])
              go_wp2_with fail
              go_ret
              exact ⟨_, rfl, by rw [LL.out]; exact jf P8.out.o1 HB.out.size, BB.out⟩
end
section
open Go.RowKit Go.Sort
theorem kH (s : ByteArray) : s.toList = [] ↔ s = ⟨#[]⟩ := by
 rw [ByteArray.toList_eq]
 constructor
 ·intro h
  apply ByteArray.ext
  rw [<- Array.toList_inj, h]
 ·intro h; rw [h]
theorem Qn {α : Sort _} (b : Cel) (fg bg : Int) (at_ : B8) (x y : α) : (if b.text.toList = [] then if b.wide = 0 then if b.st.fg = fg then if b.st.bg = bg then if bI b.st.at_ = bI at_ then x else y else y else y else y else y) = if b = (⟨⟨#[]⟩, 0, ⟨fg, bg, at_⟩⟩ : Cel) then x else y := by
 obtain ⟨t, w, ⟨f, g, a⟩⟩ := b
 by_cases c : (⟨t, w, ⟨f, g, a⟩⟩ : Cel) = ⟨⟨#[]⟩, 0, ⟨fg, bg, at_⟩⟩
 ·rw [if_pos c]
  injection c with c1 c2 c3
  injection c3 with c3 c4 c5
  subst c1 c2 c3 c4 c5
  rw [if_pos ((kH _).2 rfl), if_pos rfl, if_pos rfl, if_pos rfl, if_pos rfl]
 ·rw [if_neg c]
  by_cases c1 : t.toList = []
  ·rw [if_pos c1]
   by_cases c2 : w = 0
   ·rw [if_pos c2]
    by_cases c3 : f = fg
    ·rw [if_pos c3]
     by_cases c4 : g = bg
     ·rw [if_pos c4]
      by_cases c5 : bI a = bI at_
      ·exfalso; apply c
       rw [(kH _).1 c1, c2, c3, c4, jV c5]
      ·rw [if_neg c5]
     ·rw [if_neg c4]
    ·rw [if_neg c3]
   ·rw [if_neg c2]
  ·rw [if_neg c1]
set_option maxHeartbeats 16000000 in
set_option maxRecDepth 100000 in
theorem d_unit (A : Option Addr) (c : Nat) (a : Cel) (r : List Cel) (n : Nat) (hn : n = (a :: r).length) (hl : n <= 1000000000000) (hz : a.text.size <= 1000000000000) (hw0 : -128 <= a.wide) (hw1 : a.wide <= 127) (w : World) (S : Sees w w.heap.size A (zc (a :: r))) :
  Calls Tryz.prog 77 #[.slice A n c] w fun e w' => e = .returned (.int .i64 (qh (a :: r) : Int)) /\ Below w.heap.size w w' := by
 obtain ⟨ad, rfl, hab, c0, c1, c2, c3, c4⟩ := vw S
 have UC : Hid (qh (a :: r) = xE a r.head? (oneB a.text)) := Vd rfl
 have ON := Vd (d_One a.text hz)
 have OW : Hid (∀ u, oneB a.text = some u -> u = 0 \/ u = 1 \/ u = 2) := Vd (fun u h => vf _ _ h)
 have OV := Vd (fun W => jB (over0 a.st W))
 have U1 : Hid (∀ u, oneB a.text = some u -> qh (a :: r) = if u < 1 \/ u ≠ a.wide \/ zf a.st ≠ a.st then 0 else if u = 2 /\ r.head? ≠ some ⟨⟨#[]⟩, 0, a.st⟩ then 0 else u.toNat) := Vd (fun u h => by rw [xe, h, xF])
 have U0 : Hid (oneB a.text = none -> qh (a :: r) = 0) := Vd (fun h => by rw [xe, h]; rfl)
 have SE := Vd S
 have hp : 0 < n := by rw [hn]; simp
 have HN := Vd hn
 obtain ⟨t, wd, st⟩ := a
 obtain ⟨fg, bg, at_⟩ := st
 simp only at c0 c1 c2 c3 c4 ON OW OV U1 U0 hz hw0 hw1
 generalize qh (⟨t, wd, ⟨fg, bg, at_⟩⟩ :: r) = U at *
 generalize oneB t = o at *
 clear S UC hn
 go_enter Tryz.func77, Tryz.ntmps77
 go_wp2_with fail
 refine (ON.out _).mono ?_; rintro e w1 ⟨rfl, hb1⟩
 have K3 : C5 w1 w.heap.size (.string t) (.int .i8 wd) (.int .i32 fg) (.int .i32 bg) (.int .u8 (bI at_)) := C5.keep (by constructor <;> simp [go_sem]) hb1 (by simp)
 have HB1 := Vd (show Below w.heap.size w w1 from zl (by go_grown) (by simp) hb1)
 clear hb1 c0 c1 c2 c3 c4
 cases ho : o with
 | none =>
  have R : Hid (U = 0) := Vd (U0.out ho)
  clear ho
  simp only [oneV]
  have K3 := K3.keep (w' := w1.alloc (.cells #[.string ⟨#[]⟩, .int .i64 0] 109)) ((Below.refl _ _).alloc Vf _) K3.lt
  have K4 : C2 (w1.alloc (.cells #[.string ⟨#[]⟩, .int .i64 0] 109)) w1.heap.size (.string ⟨#[]⟩) (.int .i64 0) := by constructor <;> simp [go_sem]
  have HX := Vd (HB1.out.alloc HB1.out.size (.cells #[.string ⟨#[]⟩, .int .i64 0] 109))
  go_upto_region 3 with fail
  have g30 := fun d os => ((K3).regrown d os).c0
  have g31 := fun d os => ((K3).regrown d os).c1
  have g32 := fun d os => ((K3).regrown d os).c2
  have g33 := fun d os => ((K3).regrown d os).c3
  have g34 := fun d os => ((K3).regrown d os).c4
  have g40 := fun d os => ((K4).regrown d os).c0
  have g41 := fun d os => ((K4).regrown d os).c1
  refine zn 22 [] [] (by kernel_rfl) (by kernel_rfl) (by kernel_rfl) (by intro t ht; cases ht) ?_
  simp only [Vg, Vh, Vi, Vj]
  repeat (refine ze (by rfl) (fun K hK => ?_); go_simp; first | (refine hK _ ?_; clear hK K) | (apply Exists.intro; refine ⟨fun _ => ?_, hK _ ?_⟩; (fail); clear hK K))
  refine zm ?_
  intro W5 vs5 hl hv
  have hb5 := zk.1 hl
  have HY := Vd (HX.out.trans (hb5.mono HX.out.size))
  clear g30 g31 g32 g33 g34 g40 g41 hl hv hb5
  simp only [zd]
  go_wp2_with fail
  go_ret
  exact ⟨by rw [R.out]; rfl, HY.out⟩
 | some u =>
  have R := Vd (U1.out u ho)
  have uo := OW.out u ho
  clear ho U0 U1
  simp only [oneV]
  have K3 := K3.keep (w' := w1.alloc (.cells #[.string t, .int .i64 u] 109)) ((Below.refl _ _).alloc Vf _) K3.lt
  have K4 : C2 (w1.alloc (.cells #[.string t, .int .i64 u] 109)) w1.heap.size (.string t) (.int .i64 u) := by constructor <;> simp [go_sem]
  have HX := Vd (HB1.out.alloc HB1.out.size (.cells #[.string t, .int .i64 u] 109))
  go_upto_region 3 with fail
  have g30 := fun d os => ((K3).regrown d os).c0
  have g31 := fun d os => ((K3).regrown d os).c1
  have g32 := fun d os => ((K3).regrown d os).c2
  have g33 := fun d os => ((K3).regrown d os).c3
  have g34 := fun d os => ((K3).regrown d os).c4
  have g40 := fun d os => ((K4).regrown d os).c0
  have g41 := fun d os => ((K4).regrown d os).c1
  have wr : IntKind.i64.wrap wd = wd := by rw [IntKind.wrap_i64]; omega
  by_cases u1 : u < 1
  ·have R0 : Hid (U = 0) := Vd (by rw [R.out, if_pos (Or.inl u1)])
   refine zn 22 [] [] (by kernel_rfl) (by kernel_rfl) (by kernel_rfl) (by intro t ht; cases ht) ?_
   simp only [Vg, Vh, Vi, Vj]
   repeat (refine ze (by rfl) (fun K hK => ?_); go_simp; first | (refine hK _ ?_; clear hK K) | (apply Exists.intro; refine ⟨fun _ => ?_, hK _ ?_⟩; (fail); clear hK K))
   refine zm ?_
   intro W5 vs5 hl hv
   have hb5 := zk.1 hl
   have HY := Vd (HX.out.trans (hb5.mono HX.out.size))
   clear g30 g31 g32 g33 g34 g40 g41 hl hv hb5
   simp only [zd]
   go_wp2_with fail
   go_ret
   exact ⟨by rw [R0.out]; rfl, HY.out⟩
  by_cases uw : u = wd
  ·subst uw
   simp only [zf] at OV R
   by_cases e1 : plC fg = fg
   ·by_cases e2 : plC bg = bg
    ·have R : Hid (U = if u = 2 /\ r.head? ≠ some ⟨⟨#[]⟩, 0, ⟨fg, bg, at_⟩⟩ then 0 else u.toNat) := Vd (by
      rw [R.out]
      refine if_neg ?_
      rintro (h | h | h)
      ·exact u1 h
      ·exact h rfl
      ·exact h (by rw [e1, e2]))
     rw [e1, e2] at OV
     refine zn 22 [] [] (by kernel_rfl) (by kernel_rfl) (by kernel_rfl) (by intro t ht; cases ht) ?_
     simp only [Vg, Vh, Vi, Vj]
     repeat (refine ze (by rfl) (fun K hK => ?_); go_simp; first | (refine hK _ ?_; clear hK K) | (apply Exists.intro; refine ⟨fun _ => ?_, hK _ ?_⟩; (with_reducible exact OV.out _); clear hK K))
     refine zm ?_
     intro W5 vs5 hl hv
     have hb5 := zk.1 hl
     have HY := Vd (HX.out.trans (hb5.mono HX.out.size))
     have K3 := K3.keep hb5 K3.lt
     have K4 := K4.keep hb5 K4.lt
     clear g30 g31 g32 g33 g34 g40 g41 hl hv hb5
     simp only [zd]
     go_wp2_with fail
     have g30 := fun d os => ((K3).regrown d os).c0
     have g31 := fun d os => ((K3).regrown d os).c1
     have g32 := fun d os => ((K3).regrown d os).c2
     have g33 := fun d os => ((K3).regrown d os).c3
     have g34 := fun d os => ((K3).regrown d os).c4
     have g40 := fun d os => ((K4).regrown d os).c0
     have g41 := fun d os => ((K4).regrown d os).c1
     by_cases u2 : u = 2
     ·subst u2
      rcases r with _ | ⟨b, r'⟩
      ·have R0 : Hid (U = 0) := Vd (by rw [R.out]; exact if_pos ⟨rfl, by simp⟩)
       have n1 : n = 1 := by rw [HN.out]; rfl
       subst n1
       refine zn 16 [] [] (by kernel_rfl) (by kernel_rfl) (by kernel_rfl) (by intro t ht; cases ht) ?_
       simp only [Vg, Vh, Vi, Vj]
       repeat (refine ze (by rfl) (fun K hK => ?_); go_simp; first | (refine hK _ ?_; clear hK K) | (apply Exists.intro; refine ⟨fun _ => ?_, hK _ ?_⟩; (fail); clear hK K))
       refine zm ?_
       intro W6 vs6 hl hv
       have hb6 := zk.1 hl
       have HZ := Vd (HY.out.trans (hb6.mono HY.out.size))
       clear hl hv hb6
       simp only [zd]
       go_wp2_with fail
       go_ret
       exact ⟨by rw [R0.out]; rfl, HZ.out⟩
      ·have n2 : 2 <= n := by rw [HN.out]; simp
       have n3 : ¬ (n : Int) < 2 := by omega
       have n4 : (1 : Int) < (n : Int) := by omega
       have BC := fun d os => cel_two SE.out (HY.out.trans ((below_regrown W5 d os).mono HY.out.size)) hab
       have b0 := fun d os => (BC d os).1
       have b1 := fun d os => (BC d os).2.1
       have b2 := fun d os => (BC d os).2.2.1
       have b3 := fun d os => (BC d os).2.2.2.1
       have b4 := fun d os => (BC d os).2.2.2.2
       clear BC
       refine zn 16 [] [] (by kernel_rfl) (by kernel_rfl) (by kernel_rfl) (by intro t ht; cases ht) ?_
       simp only [Vg, Vh, Vi, Vj]
       repeat (refine ze (by rfl) (fun K hK => ?_); go_simp; first | (refine hK _ ?_; clear hK K) | (apply Exists.intro; refine ⟨fun _ => ?_, hK _ ?_⟩; (fail); clear hK K))
       refine ze (by rfl) (fun K hK => ?_); go_simp
       by_cases hbb : b = (⟨⟨#[]⟩, 0, ⟨fg, bg, at_⟩⟩ : Cel)
       ·have R0 : Hid (U = 2) := Vd (by rw [R.out]; exact if_neg (fun h => h.2 (by rw [hbb]; rfl)))
        refine ⟨.bool false, fun p => ?_, hK _ ?_⟩
        ·rw [Qn, if_pos hbb]; exact ⟨rfl, rfl⟩
        clear hK K hbb
        repeat (refine ze (by rfl) (fun K hK => ?_); go_simp; first | (refine hK _ ?_; clear hK K) | (apply Exists.intro; refine ⟨fun _ => ?_, hK _ ?_⟩; (fail); clear hK K))
        refine zm ?_
        intro W6 vs6 hl hv
        have hb6 := zk.1 hl
        have HZ := Vd (HY.out.trans (hb6.mono HY.out.size))
        obtain ⟨z0, z1⟩ := K4.keep hb6 K4.lt
        clear hl hv hb6
        simp only [zd]
        go_wp2_with fail
        go_ret
        exact ⟨zC (by rw [R0.out]; rfl), HZ.out⟩
       ·have R0 : Hid (U = 0) := Vd (by rw [R.out]; exact if_pos ⟨rfl, fun h => hbb (Option.some.inj h)⟩)
        refine ⟨.bool true, fun p => ?_, hK _ ?_⟩
        ·rw [Qn, if_neg hbb]; exact ⟨rfl, rfl⟩
        clear hK K hbb
        repeat (refine ze (by rfl) (fun K hK => ?_); go_simp; first | (refine hK _ ?_; clear hK K) | (apply Exists.intro; refine ⟨fun _ => ?_, hK _ ?_⟩; (fail); clear hK K))
        refine zm ?_
        intro W6 vs6 hl hv
        have hb6 := zk.1 hl
        have HZ := Vd (HY.out.trans (hb6.mono HY.out.size))
        clear hl hv hb6
        simp only [zd]
        go_wp2_with fail
        go_ret
        exact ⟨by rw [R0.out]; rfl, HZ.out⟩
     ·have R0 : Hid (U = u.toNat) := Vd (by rw [R.out]; exact if_neg (fun h => u2 h.1))
      have q2 : (u == 2) = false := beq_eq_false_iff_ne.2 u2
      refine zn 16 [] [] (by kernel_rfl) (by kernel_rfl) (by kernel_rfl) (by intro t ht; cases ht) ?_
      simp only [Vg, Vh, Vi, Vj]
      repeat (refine ze (by rfl) (fun K hK => ?_); go_simp; first | (refine hK _ ?_; clear hK K) | (apply Exists.intro; refine ⟨fun _ => ?_, hK _ ?_⟩; (fail); clear hK K))
      refine zm ?_
      intro W6 vs6 hl hv
      have hb6 := zk.1 hl
      have HZ := Vd (HY.out.trans (hb6.mono HY.out.size))
      obtain ⟨z0, z1⟩ := K4.keep hb6 K4.lt
      clear hl hv hb6
      simp only [zd]
      go_wp2_with fail
      go_ret
      exact ⟨zC (by rw [R0.out]; omega), HZ.out⟩
    ·have R0 : Hid (U = 0) := Vd (by rw [R.out]; exact if_pos (Or.inr (Or.inr fun h => e2 (Sty.mk.inj h).2.1)))
     have q : (plC bg == bg) = false := beq_eq_false_iff_ne.2 e2
     refine zn 22 [] [] (by kernel_rfl) (by kernel_rfl) (by kernel_rfl) (by intro t ht; cases ht) ?_
     simp only [Vg, Vh, Vi, Vj]
     repeat (refine ze (by rfl) (fun K hK => ?_); go_simp; first | (refine hK _ ?_; clear hK K) | (apply Exists.intro; refine ⟨fun _ => ?_, hK _ ?_⟩; (with_reducible exact OV.out _); clear hK K))
     refine zm ?_
     intro W5 vs5 hl hv
     have hb5 := zk.1 hl
     have HY := Vd (HX.out.trans (hb5.mono HX.out.size))
     clear g30 g31 g32 g33 g34 g40 g41 hl hv hb5
     simp only [zd]
     go_wp2_with fail
     go_ret
     exact ⟨by rw [R0.out]; rfl, HY.out⟩
   ·have R0 : Hid (U = 0) := Vd (by rw [R.out]; exact if_pos (Or.inr (Or.inr fun h => e1 (Sty.mk.inj h).1)))
    have q : (plC fg == fg) = false := beq_eq_false_iff_ne.2 e1
    refine zn 22 [] [] (by kernel_rfl) (by kernel_rfl) (by kernel_rfl) (by intro t ht; cases ht) ?_
    simp only [Vg, Vh, Vi, Vj]
    repeat (refine ze (by rfl) (fun K hK => ?_); go_simp; first | (refine hK _ ?_; clear hK K) | (apply Exists.intro; refine ⟨fun _ => ?_, hK _ ?_⟩; (with_reducible exact OV.out _); clear hK K))
    refine zm ?_
    intro W5 vs5 hl hv
    have hb5 := zk.1 hl
    have HY := Vd (HX.out.trans (hb5.mono HX.out.size))
    clear g30 g31 g32 g33 g34 g40 g41 hl hv hb5
    simp only [zd]
    go_wp2_with fail
    go_ret
    exact ⟨by rw [R0.out]; rfl, HY.out⟩
  ·have R0 : Hid (U = 0) := Vd (by rw [R.out, if_pos (Or.inr (Or.inl uw))])
   have q : (u != wd) = true := by rw [bne_iff_ne]; exact uw
   refine zn 22 [] [] (by kernel_rfl) (by kernel_rfl) (by kernel_rfl) (by intro t ht; cases ht) ?_
   simp only [Vg, Vh, Vi, Vj]
   repeat (refine ze (by rfl) (fun K hK => ?_); go_simp; first | (refine hK _ ?_; clear hK K) | (apply Exists.intro; refine ⟨fun _ => ?_, hK _ ?_⟩; (fail); clear hK K))
   refine zm ?_
   intro W5 vs5 hl hv
   have hb5 := zk.1 hl
   have HY := Vd (HX.out.trans (hb5.mono HX.out.size))
   clear g30 g31 g32 g33 g34 g40 g41 hl hv hb5
   simp only [zd]
   go_wp2_with fail
   go_ret
   exact ⟨by rw [R0.out]; rfl, HY.out⟩
end
section
open Go.RowKit Go.Sort
def okC (c : Cel) : Prop := c.text.size <= 1000000000000 /\ -128 <= c.wide /\ c.wide <= 127
theorem row_step (l : List Cel) (h : l ≠ []) : rowR l = (decide (0 < qh l) && rowR (l.drop (max (qh l) 1))) := by
 have e1 := ZC (l.length + 1) l (by omega)
 have e2 := ZC l.length (l.drop (max (qh l) 1)) (by rw [List.length_drop]; omega)
 rw [<- e1, <- e2]
 conv => lhs; unfold kg
 rw [if_neg h]
set_option maxHeartbeats 4000000 in
theorem Qo (a b : Int) : Tells 38 #[.int .i64 a, .int .i64 b] (.bool (qJ a b)) := by
 intro w
 have R : Hid (qJ a b = (decide (0 <= a) && decide (a <= 4096) && decide (0 <= b) && decide (b <= 4096) && decide (a * b <= 1048576))) := Vd rfl
 generalize qJ a b = r at *
 by_cases c1 : 0 <= a
 ·by_cases c2 : a <= 4096
  ·by_cases c3 : 0 <= b
   ·by_cases c4 : b <= 4096
    ·have m0 : 0 <= a * b := Int.mul_nonneg c1 c3
     have m1 : a * b <= 4096 * 4096 := Int.mul_le_mul c2 c4 c3 (by omega)
     have R : Hid (r = decide (a * b <= 1048576)) := Vd (by rw [R.out, decide_eq_true c1, decide_eq_true c2, decide_eq_true c3, decide_eq_true c4]; rfl)
     by_cases c5 : a * b <= 1048576
     all_goals
      go_enter Tryz.func38, Tryz.ntmps38
      go_wp2_with fail
      go_ret
      exact ⟨zv (by rw [R.out]; simp [c5]), rfl⟩
    ·have R : Hid (r = false) := Vd (by rw [R.out, decide_eq_false c4]; simp)
     go_enter Tryz.func38, Tryz.ntmps38
     go_wp2_with fail
     go_ret
     exact ⟨zv (by rw [R.out]), rfl⟩
   ·have R : Hid (r = false) := Vd (by rw [R.out, decide_eq_false c3]; simp)
    go_enter Tryz.func38, Tryz.ntmps38
    go_wp2_with fail
    go_ret
    exact ⟨zv (by rw [R.out]), rfl⟩
  ·have R : Hid (r = false) := Vd (by rw [R.out, decide_eq_false c2]; simp)
   go_enter Tryz.func38, Tryz.ntmps38
   go_wp2_with fail
   go_ret
   exact ⟨zv (by rw [R.out]), rfl⟩
 ·have R : Hid (r = false) := Vd (by rw [R.out, decide_eq_false c1]; simp)
  go_enter Tryz.func38, Tryz.ntmps38
  go_wp2_with fail
  go_ret
  exact ⟨zv (by rw [R.out]), rfl⟩
set_option maxHeartbeats 4000000 in
theorem d_whole1 (b : Bool) (i n : Int) (g : Nat) (w : World) (hc : w.cell? ⟨g, 0, none⟩ = some (.bool b)) (hf : w.frozen? ⟨g, 0, none⟩ = false) :
  Calls Tryz.prog 60 #[.int .i64 i, .int .i64 n, .pointer (some ⟨g, 0, none⟩)] w fun e w' => (∃ v, e = .returned v) /\ w' = w.setCell ⟨g, 0, none⟩ (.bool (b && decide (0 < n))) := by
 cases b with
 | false =>
  go_enter Tryz.func60, Tryz.ntmps60
  go_wp2_with fail
  go_end0
  exact ⟨⟨_, rfl⟩, rfl⟩
 | true =>
  obtain ⟨q, hq⟩ : ∃ q : Bool, q = (true && decide (0 < n)) := ⟨_, rfl⟩
  rw [<- hq]
  have HQ := Vd hq
  by_cases c : 0 < n
  all_goals
   have R := HQ.out
   first | rw [decide_eq_true c] at R | rw [decide_eq_false c] at R
   have R := Vd R
   clear hq
   go_enter Tryz.func60, Tryz.ntmps60
   go_wp2_with fail
   go_end0
   exact ⟨⟨_, rfl⟩, by first | rfl | (rw [R.out]; rfl)⟩
set_option maxHeartbeats 8000000 in
set_option maxRecDepth 100000 in
theorem d_units (B g : Nat) (A : Option Addr) (c : Nat) (L : List Cel) (hl : L.length <= 1000000000000) (hcp : L.length <= c) (ho : ∀ x ∈ L, okC x) (w : World) (hB : B <= g) (hg : g < w.heap.size) (hc : w.cell? ⟨g, 0, none⟩ = some (.bool true)) (hf : w.frozen? ⟨g, 0, none⟩ = false) (S : Sees w B A (zc L)) :
  Calls Tryz.prog 59 #[.slice A L.length c, .func (.func 60) #[] #[.pointer (some ⟨g, 0, none⟩)]] w fun e w' => (∃ v, e = .returned v) /\ w'.cell? ⟨g, 0, none⟩ = some (.bool (rowR L)) /\ Below B w w' := by
 obtain ⟨N, hN⟩ : ∃ N, N = L.length := ⟨_, rfl⟩
 have HN := Vd hN
 have HS := Vd S
 have HO := Vd ho
 rw [<- hN] at hl hcp ⊢
 clear S ho hN
 go_enter Tryz.func59, Tryz.ntmps59
 go_wp2_with fail
 go_loopw [4, 5] (fun i n5 wr => ∃ (k : Nat) (b : Bool), k <= N /\ i = .int .i64 k /\ Hid (rowR L = (b && rowR (L.drop k))) /\ Hid (wr.cell? ⟨g, 0, none⟩ = some (.bool b) /\ wr.frozen? ⟨g, 0, none⟩ = false /\ g < wr.heap.size /\ Below B w wr)) (fun i _ _ => N - (intOf i).toNat)
 case atStart => exact ⟨0, true, Nat.zero_le _, rfl, Vd (by simp), Vd ⟨hc, hf, hg, Below.refl _ _⟩⟩
 case round =>
  obtain ⟨k, b, hk, rfl, hr, hm⟩ := hrel
  clear hc hf hg
  by_cases lt : k < N
  ·have kl : k < L.length := by have := HN.out; omega
   obtain ⟨a, r, hd⟩ : ∃ a r, L.drop k = a :: r := ⟨L[k], L.drop (k + 1), List.drop_eq_getElem_cons kl⟩
   have ok : okC a := HO.out a (List.mem_of_mem_drop (by rw [hd]; simp))
   have ln : N - k = (a :: r).length := by rw [<- hd, List.length_drop, <- HN.out]
   obtain ⟨ad, rfl, hab⟩ : ∃ ad, A = some ad /\ ad.block < B := by
    obtain ⟨ad, e, h, _⟩ := HS.out (fun e => by have := jo L; rw [e] at this; simp at this; omega)
    exact ⟨ad, e, h⟩
   obtain ⟨m1, m2, m3, m4⟩ := hm.out
   have S1 : Sees wr wr.heap.size (some (ad.add (k * 5))) (zc (a :: r)) := by
    have h := ((HS.out.below m4 Vf).more (show B <= wr.heap.size by omega)).dropV (k * 5)
    rw [<- kx, hd] at h
    exact h
   have UN := Vd (d_unit (some (ad.add (k * 5))) (c - k) a r (N - k) ln (by omega) ok.1 ok.2.1 ok.2.2 wr S1)
   have UL := unit_le (a :: r)
   have ul2 : qh (a :: r) <= N - k := by
    have := UL.2
    rw [<- ln] at this
    omega
   have RS : Hid (rowR L = ((b && decide (0 < (qh (a :: r) : Int))) && rowR (L.drop (k + max (qh (a :: r)) 1)))) := Vd (by
    rw [hr.out, hd, row_step (a :: r) (by simp), Bool.and_assoc, <- hd, List.drop_drop]
    congr 2
    exact decide_eq_decide.2 (by omega))
   have MM := Vd (show wr.cell? ⟨g, 0, none⟩ = some (.bool b) /\ wr.frozen? ⟨g, 0, none⟩ = false /\ g < wr.heap.size /\ Below B w wr from ⟨m1, m2, m3, m4⟩)
   have ck : ¬ c = k := by omega
   have bc : B <= wr.heap.size := by omega
   generalize qh (a :: r) = u at *
   clear S1 hd ok ln UL hr m1 m2 m3 m4 hm kl
   go_wp2_with fail
   refine UN.out.mono ?_; rintro e w1 ⟨rfl, hb1⟩
   have M1 : Hid (w1.cell? ⟨g, 0, none⟩ = some (.bool b) /\ w1.frozen? ⟨g, 0, none⟩ = false /\ g < w1.heap.size /\ Below B w w1) := Vd ⟨(hb1.cell (p := ⟨g, 0, none⟩) MM.out.2.2.1).trans MM.out.1, (hb1.frozen (p := ⟨g, 0, none⟩) MM.out.2.2.1).trans MM.out.2.1, Nat.lt_of_lt_of_le MM.out.2.2.1 hb1.size, MM.out.2.2.2.trans (hb1.mono bc)⟩
   clear hb1
   go_wp2_with fail
   refine (d_whole1 b k u g w1 M1.out.1 M1.out.2.1).mono ?_; rintro e w2 ⟨⟨v, rfl⟩, rfl⟩
   have M2 : Hid ((w1.setCell ⟨g, 0, none⟩ (.bool (b && decide (0 < (u : Int))))).cell? ⟨g, 0, none⟩ = some (.bool (b && decide (0 < (u : Int)))) /\ (w1.setCell ⟨g, 0, none⟩ (.bool (b && decide (0 < (u : Int))))).frozen? ⟨g, 0, none⟩ = false /\ g < (w1.setCell ⟨g, 0, none⟩ (.bool (b && decide (0 < (u : Int))))).heap.size /\ Below B w (w1.setCell ⟨g, 0, none⟩ (.bool (b && decide (0 < (u : Int)))))) := Vd (by
    obtain ⟨a1, a2, a3, a4⟩ := M1.out
    exact ⟨by simp [go_sem, *], by simp [go_sem, *], by simpa using a3, a4.setCell hB _⟩)
   generalize w1.setCell ⟨g, 0, none⟩ (.bool (b && decide (0 < (u : Int)))) = w2 at *
   clear M1
   by_cases u0 : u = 0
   ·subst u0
    go_wp2_with fail
    go_roundw
    case rel => exact ⟨k + 1, _, by omega, by go_num, RS, M2⟩
    case measure => simp [intOf]; omega
   ·have e1 : max u 1 = u := by omega
    rw [e1] at RS
    have u1 : 1 <= (u : Int) := by omega
    go_wp2_with fail
    go_roundw
    case rel => exact ⟨k + u, _, by omega, by go_num, RS, M2⟩
    case measure => simp [intOf]; omega
  ·have e : k = N := by omega
   subst e
   have R : Hid (rowR L = b) := Vd (by rw [hr.out, List.drop_eq_nil_of_le (by have := HN.out; omega)]; simp [rowR])
   have HM := Vd hm.out
   clear hr hm
   go_wp2_with fail
   go_end0
   exact ⟨⟨_, rfl⟩, by rw [R.out]; exact HM.out.1, HM.out.2.2.2⟩
end
section
open Go.RowKit Go.Sort
set_option maxHeartbeats 4000000 in
theorem d_whole (A : Option Addr) (c : Nat) (L : List Cel) (n : Nat) (hn : n = L.length) (hl : L.length <= 1000000000000) (hcp : L.length <= c) (ho : ∀ x ∈ L, okC x) (w : World) (S : Sees w w.heap.size A (zc L)) :
  Calls Tryz.prog 39 #[.slice A n c] w fun e w' => e = .returned (.bool (rowR L)) /\ Below w.heap.size w w' := by
 subst hn
 have hmf : ∀ (fn : Fn) (first cap : Array Value) (w : World), (Instr.makeFunc fn first cap).run Tryz.prog w = .ok (.func fn first cap) w := fun _ _ _ _ => rfl
 obtain ⟨W, hW⟩ : ∃ W, W = w.alloc (.cells #[.bool true] 4) := ⟨_, rfl⟩
 have hB : Below w.heap.size w W := by rw [hW]; exact (Below.refl _ w).alloc Vf _
 have U := Vd (d_units w.heap.size w.heap.size A c L hl hcp ho W Vf (by rw [hW]; simp) (by rw [hW]; simp [go_sem]) (by rw [hW]; simp [go_sem]) (S.below hB Vf))
 have HB := Vd hB
 generalize rowR L = r at *
 generalize L.length = n at *
 clear hB S ho
 go_enter Tryz.func39, Tryz.ntmps39
 go_wp2_with fail
 rw [<- hW]
 clear hW
 refine U.out.mono ?_; rintro e w1 ⟨⟨v, rfl⟩, hc, hb⟩
 have HB2 := Vd (HB.out.trans hb)
 clear hb
 go_wp2_with fail
 go_ret
 exact ⟨rfl, HB2.out⟩
def scrV (s : Scr) (A : Option Addr) (c : Nat) : Value := .agg #[.int .i64 s.w, .int .i64 s.h, .slice A s.cells.length c, .int .i64 s.x, .int .i64 s.y, .bool s.shown]
theorem Qp (s : Scr) (h : qJ s.w s.h = false) : zi s = false := by unfold zi; rw [h]; rfl
theorem Qq (s : Scr) (h : ¬ (s.cells.length : Int) = s.w * s.h) : zi s = false := by unfold zi; rw [decide_eq_false h]; simp
theorem Qr (s : Scr) (y : Nat) (hy : y < s.h.toNat) (h : rowR (zG s y) = false) : zi s = false := by
 cases e : zi s with
 | false => rfl
 | true => have := (z7 e).2.2.1 y hy; rw [h] at this; cases this
theorem Qs (s : Scr) (h1 : qJ s.w s.h = true) (h2 : (s.cells.length : Int) = s.w * s.h) (h3 : ∀ y, y < s.h.toNat -> rowR (zG s y) = true) : zi s = qN s := by
 cases e : qN s with
 | false =>
  unfold zi
  rw [e]
  simp
 | true => exact ZT h1 h2 h3 e
def cutA (A : Option Addr) (c P : Nat) : Option Addr := if c = P then A else A.map fun a => a.add (P * 5)
theorem Xs (A : Option Addr) (n c P : Nat) (h : P <= n) (W : World) : (Instr.slice 22 (.slice A n c) (some (.int .i64 (P : Int))) none none).run Tryz.prog W = .ok (.slice (cutA A c P) (n - P) (c - P)) W := by
 rw [run_slice_l W 22 A n c (by kernel_rfl) .i64 (P : Int) (by omega) (by omega)]
 rw [Int.toNat_natCast]
 have sz : (sizeOf (Tryz.prog.elem 22)).run Tryz.prog W = .ok 5 W := by kernel_rfl
 rw [sz]
 rfl
theorem Qt {w : World} {B : Nat} {A : Option Addr} {L : List Cel} (c P : Nat) (h : Sees w B A (zc L)) (hc : L.length <= c) : Sees w B (cutA A c P) (zc (L.drop P)) := by
 unfold cutA
 by_cases e : c = P
 ·rw [if_pos e, List.drop_eq_nil_of_le (by omega)]
  exact Sees.nil _ _ _
 ·rw [if_neg e]
  cases A with
  | none =>
   have : L = [] := by
    cases L with
    | nil => rfl
    | cons a r =>
     obtain ⟨ad, e, _⟩ := h (by rw [jM]; simp [celV])
     cases e
   subst this
   rw [List.drop_nil]
   exact Sees.nil _ _ _
  | some ad => rw [kx]; exact h.dropV _
set_option maxHeartbeats 16000000 in
set_option maxRecDepth 100000 in
theorem vz (s : Scr) (A : Option Addr) (c : Nat) (hcp : s.cells.length <= c) (hA : A = none -> c = 0) (hl : s.cells.length <= 1000000000000) (ho : ∀ x ∈ s.cells, okC x) (w : World) (S : Sees w w.heap.size A (zc s.cells)) :
  Calls Tryz.prog 23 #[scrV s A c] w fun e w' => e = .returned (.bool (zi s)) /\ Below w.heap.size w w' := by
 have R1 := Vd (Qp s)
 have R2 := Vd (Qq s)
 have R3 := Vd (Qr s)
 have R4 := Vd (Qs s)
 have ROW : Hid (∀ k, zG s k = (s.cells.drop (k * s.w.toNat)).take s.w.toNat) := Vd (fun _ => rfl)
 have CU : Hid (qN s = if s.shown = true then decide (0 <= s.x) && decide (s.x < s.w) && decide (0 <= s.y) && decide (s.y < s.h) else decide (s.x = 0) && decide (s.y = 0)) := Vd rfl
 have HO := Vd ho
 have HS := Vd S
 have HAN := Vd hA
 generalize zi s = r at *
 generalize qN s = cu at *
 simp only [scrV]
 obtain ⟨N, hN⟩ : ∃ N, N = s.cells.length := ⟨_, rfl⟩
 rw [<- hN] at hcp hl R2 R4 ⊢
 have HN := Vd hN
 clear ho S hA hN
 cases hs : qJ s.w s.h with
 | false =>
  have R := Vd (R1.out hs)
  have SZ := Vd (Qo s.w s.h)
  rw [hs] at SZ
  clear hs
  go_enter Tryz.func23, Tryz.ntmps23
  go_wp2_with fail
  refine (SZ.out _).mono ?_; rintro e w1 ⟨rfl, rfl⟩
  go_wp2_with fail
  go_ret
  exact ⟨zv (by rw [R.out]), by go_grown⟩
 | true =>
  have SZ := Vd (Qo s.w s.h)
  have R5 := Vd (R4.out hs)
  clear R4
  obtain ⟨w0, w1, h0, h1, wh⟩ := qZ hs
  rw [hs] at SZ
  obtain ⟨W, hW⟩ : ∃ W : Nat, s.w = (W : Int) := ⟨s.w.toNat, by omega⟩
  obtain ⟨H, hH⟩ : ∃ H : Nat, s.h = (H : Int) := ⟨s.h.toNat, by omega⟩
  rw [hW, hH] at R2 R5 SZ CU wh ⊢
  rw [hH] at R3
  rw [Int.toNat_natCast] at R3 R5
  rw [hW] at ROW w0 w1
  rw [hH] at h0 h1
  rw [Int.toNat_natCast] at ROW
  obtain ⟨M, hM⟩ : ∃ M : Nat, M = W * H := ⟨_, rfl⟩
  have eM : (W : Int) * (H : Int) = (M : Int) := by rw [hM, Int.natCast_mul]
  have HM := Vd hM
  rw [eM] at R2 R5 wh
  clear hs hW hH hM
  obtain ⟨Q, hQ⟩ : ∃ Q, Q = w.alloc (.cells #[.int .i64 (W : Int), .int .i64 (H : Int), .slice A N c, .int .i64 s.x, .int .i64 s.y, .bool s.shown] 24) := ⟨_, rfl⟩
  have BQ := Vd (show Below w.heap.size w Q by rw [hQ]; exact (Below.refl _ w).alloc Vf _)
  have q0 : Q.cell? ⟨w.heap.size, 0, none⟩ = some (.int .i64 (W : Int)) := by rw [hQ]; simp [go_sem]
  have q1 : Q.cell? ⟨w.heap.size, 1, none⟩ = some (.int .i64 (H : Int)) := by rw [hQ]; simp [go_sem]
  have q2 : Q.cell? ⟨w.heap.size, 2, none⟩ = some (.slice A N c) := by rw [hQ]; simp [go_sem]
  have q3 : Q.cell? ⟨w.heap.size, 3, none⟩ = some (.int .i64 s.x) := by rw [hQ]; simp [go_sem]
  have q4 : Q.cell? ⟨w.heap.size, 4, none⟩ = some (.int .i64 s.y) := by rw [hQ]; simp [go_sem]
  have q5 : Q.cell? ⟨w.heap.size, 5, none⟩ = some (.bool s.shown) := by rw [hQ]; simp [go_sem]
  have HQ := Vd hQ
  by_cases hn : (N : Int) = (M : Int)
  ·have R6 := Vd (R5.out hn)
   clear R5
   have nm : N = M := by omega
   subst nm
   go_enter Tryz.func23, Tryz.ntmps23
   go_wp2_with fail
   rw [<- hQ]
   clear hQ
   refine (SZ.out _).mono ?_; rintro e w1 ⟨rfl, rfl⟩
   go_wp2_with fail
   go_loopw [23] (fun i wr => ∃ k : Nat, k <= H /\ i = .int .i64 k /\ Hid (∀ y, y < k -> rowR (zG s y) = true) /\ Hid (Below Q.heap.size Q wr)) (fun i _ => H - (intOf i).toNat)
   case atStart => exact ⟨0, Nat.zero_le _, rfl, Vd (fun y h => by omega), Vd (Below.refl _ _)⟩
   case round =>
    obtain ⟨k, hk, rfl, hr, hbq⟩ := hrel
    have hqs : w.heap.size < Q.heap.size := block_lt_of_cell q0
    have z0 : wr.cell? ⟨w.heap.size, 0, none⟩ = some (.int .i64 (W : Int)) := (hbq.out.cell (p := ⟨w.heap.size, 0, none⟩) hqs).trans q0
    have z2 : wr.cell? ⟨w.heap.size, 2, none⟩ = some (.slice A N c) := (hbq.out.cell (p := ⟨w.heap.size, 2, none⟩) hqs).trans q2
    have z3 : wr.cell? ⟨w.heap.size, 3, none⟩ = some (.int .i64 s.x) := (hbq.out.cell (p := ⟨w.heap.size, 3, none⟩) hqs).trans q3
    have z4 : wr.cell? ⟨w.heap.size, 4, none⟩ = some (.int .i64 s.y) := (hbq.out.cell (p := ⟨w.heap.size, 4, none⟩) hqs).trans q4
    have z5 : wr.cell? ⟨w.heap.size, 5, none⟩ = some (.bool s.shown) := (hbq.out.cell (p := ⟨w.heap.size, 5, none⟩) hqs).trans q5
    have z1 : wr.cell? ⟨w.heap.size, 1, none⟩ = some (.int .i64 (H : Int)) := (hbq.out.cell (p := ⟨w.heap.size, 1, none⟩) hqs).trans q1
    have Z5 := Vd q5
    clear q0 q1 q2 q3 q4 q5
    by_cases lt : k < H
    ·obtain ⟨P, hP⟩ : ∃ P : Nat, P = k * W := ⟨_, rfl⟩
     have eP : (k : Int) * (W : Int) = (P : Int) := by rw [hP, Int.natCast_mul]
     have le : P + W <= N := by
      rw [hP, HM.out, Nat.mul_comm W H, <- Nat.succ_mul]
      exact Nat.mul_le_mul_right _ lt
     have ROWK : zG s k = (s.cells.drop P).take W := by rw [ROW.out, hP]
     have hs1 := fun X => Xs A N c P (by omega) X
     have sc2 : (W : Int) <= ((c - P : Nat) : Int) := by omega
     have wP : IntKind.i64.wrap (P : Int) = (P : Int) := by rw [IntKind.wrap_i64]; omega
     have SW : Sees wr wr.heap.size (cutA A c P) (zc ((s.cells.drop P).take W)) := by
      rw [ky]
      refine Sees.takeV _ ?_
      refine Qt c P ?_ (by rw [<- HN.out]; exact hcp)
      exact (HS.out.below (BQ.out.trans (hbq.out.mono BQ.out.size)) Vf).more (by have := hbq.out.size; have := BQ.out.size; omega)
     have lw : W = ((s.cells.drop P).take W).length := by rw [List.length_take, List.length_drop, <- HN.out]; omega
     have WH : Hid (∀ d os, Calls Tryz.prog 39 #[.slice (cutA A c P) W (c - P)] (grow (redrawn wr d) os) fun e w' => e = .returned (.bool (rowR (zG s k))) /\ qc (grow (redrawn wr d) os) w') := Vd (fun d os => by
      rw [ROWK]
      exact jB (d_whole _ _ _ W lw (by omega) (by omega) (fun x hx => HO.out x (List.mem_of_mem_drop (List.mem_of_mem_take hx))) _ ((SW.below (below_regrown wr d os) Vf).more (below_regrown wr d os).size)))
     clear hP SW lw ROWK
     generalize cutA A c P = A2 at *
     go_upto_region 6 with fail
     have g0 : ∀ d os, (grow (redrawn wr d) os).cell? ⟨w.heap.size, 0, none⟩ = some (.int .i64 (W : Int)) := fun d os => ((below_regrown wr d os).cell (p := ⟨w.heap.size, 0, none⟩) (block_lt_of_cell z0)).trans z0
     have g2 : ∀ d os, (grow (redrawn wr d) os).cell? ⟨w.heap.size, 2, none⟩ = some (.slice A N c) := fun d os => ((below_regrown wr d os).cell (p := ⟨w.heap.size, 2, none⟩) (block_lt_of_cell z2)).trans z2
     refine zn 11 [] [] (by kernel_rfl) (by kernel_rfl) (by kernel_rfl) (by intro t ht; cases ht) ?_
     simp only [Vg, Vh, Vi, Vj]
     repeat (refine ze (by rfl) (fun K hK => ?_); go_simp; first | (refine hK _ ?_; clear hK K) | (apply Exists.intro; refine ⟨fun _ => ?_, hK _ ?_⟩; (with_reducible exact WH.out _ _); clear hK K))
     refine zm ?_
     intro W5 vs5 hl hv
     have hb5 := zk.1 hl
     have B5 := Vd (hbq.out.trans (hb5.mono hbq.out.size))
     have RR := Vd (R3.out k lt)
     have RN := Vd hr.out
     clear hl hv hb5 g0 g2 WH
     simp only [zd]
     cases hq : rowR (zG s k) with
     | true =>
      have RQ : Hid (∀ y, y < k + 1 -> rowR (zG s y) = true) := Vd (fun y hy => by
       by_cases e : y = k
       ·rw [e]; exact hq
       ·exact RN.out y (by omega))
      clear hq
      go_wp2_with fail
      go_roundw
      case rel => exact ⟨k + 1, by omega, by go_num, RQ, B5⟩
      case measure => simp [intOf]; omega
     | false =>
      have R := Vd (RR.out hq)
      clear hq
      go_wp2_with fail
      go_ret
      exact ⟨zv (by rw [R.out]), BQ.out.trans (B5.out.mono BQ.out.size)⟩
    ·have e : k = H := by omega
     subst e
     have R := Vd (R6.out hr.out)
     have BB := Vd (BQ.out.trans (hbq.out.mono BQ.out.size))
     clear hr hbq
     generalize s.shown = sn at *
     generalize s.x = X at *
     generalize s.y = Y at *
     cases sn with
     | false =>
      by_cases x0 : X = 0
      ·by_cases y0 : Y = 0
       ·have e1 : (X == 0) = true := beq_iff_eq.2 x0
        have e2 : (Y == 0) = true := beq_iff_eq.2 y0
        have RC : Hid (r = true) := Vd (by rw [R.out, CU.out, x0, y0]; rfl)
        clear x0 y0
        go_wp2_with fail
        go_ret
        exact ⟨zv (by rw [RC.out]), BB.out⟩
       ·have e1 : (X == 0) = true := beq_iff_eq.2 x0
        have e2 : (Y == 0) = false := beq_eq_false_iff_ne.2 y0
        have RC : Hid (r = false) := Vd (by rw [R.out, CU.out, decide_eq_false y0]; simp)
        clear x0 y0
        go_wp2_with fail
        go_ret
        exact ⟨zv (by rw [RC.out]), BB.out⟩
      ·have e1 : (X == 0) = false := beq_eq_false_iff_ne.2 x0
       have RC : Hid (r = false) := Vd (by rw [R.out, CU.out, decide_eq_false x0]; simp)
       clear x0
       go_wp2_with fail
       go_ret
       exact ⟨zv (by rw [RC.out]), BB.out⟩
     | true =>
      have CU2 : Hid (r = (decide (0 <= X) && decide (X < (W : Int)) && decide (0 <= Y) && decide (Y < (k : Int)))) := Vd (by rw [R.out, CU.out, if_pos rfl])
      by_cases x0 : 0 <= X
      ·by_cases x1 : X < (W : Int)
       ·by_cases y0 : 0 <= Y
        ·by_cases y1 : Y < (k : Int)
         ·have RC : Hid (r = true) := Vd (by rw [CU2.out, decide_eq_true x0, decide_eq_true x1, decide_eq_true y0, decide_eq_true y1]; rfl)
          go_wp2_with fail
          go_ret
          exact ⟨zv (by rw [RC.out]), BB.out⟩
         ·have RC : Hid (r = false) := Vd (by rw [CU2.out, decide_eq_false y1]; simp)
          go_wp2_with fail
          go_ret
          exact ⟨zv (by rw [RC.out]), BB.out⟩
        ·have RC : Hid (r = false) := Vd (by rw [CU2.out, decide_eq_false y0]; simp)
         go_wp2_with fail
         go_ret
         exact ⟨zv (by rw [RC.out]), BB.out⟩
       ·have RC : Hid (r = false) := Vd (by rw [CU2.out, decide_eq_false x1]; simp)
        go_wp2_with fail
        go_ret
        exact ⟨zv (by rw [RC.out]), BB.out⟩
      ·have RC : Hid (r = false) := Vd (by rw [CU2.out, decide_eq_false x0]; simp)
       go_wp2_with fail
       go_ret
       exact ⟨zv (by rw [RC.out]), BB.out⟩
  ·have R := Vd (R2.out hn)
   go_enter Tryz.func23, Tryz.ntmps23
   go_wp2_with fail
   rw [<- hQ]
   clear hQ
   refine (SZ.out _).mono ?_; rintro e w1 ⟨rfl, rfl⟩
   have hn' : ((N : Int) == (M : Int)) = false := by simpa using hn
   go_wp2_with fail
   go_ret
   exact ⟨zv (by rw [R.out]), BQ.out⟩
set_option maxHeartbeats 4000000 in
theorem d_Blank (s : Sty) : Gives 48 #[styV s.fg s.bg s.at_] (.agg #[.string ⟨#[32]⟩, .int .i8 1, .int .i32 (zf s).fg, .int .i32 (zf s).bg, .int .u8 (bI (zf s).at_)]) := by
 intro w
 have OV := Vd (over0 s)
 generalize zf s = t at *
 go_enter Tryz.func48, Tryz.ntmps48
 go_wp2_with fail
 refine (OV.out _).mono ?_; rintro e w1 ⟨rfl, hb1⟩
 have K : C5 w1 (w.heap.size + 1) (.string ⟨#[]⟩) (.int .i8 0) (.int .i32 0) (.int .i32 0) (.int .u8 0) := C5.keep (by constructor <;> simp [go_sem]) hb1 (by simp)
 have F : ∀ k, w1.frozen? ⟨w.heap.size + 1, k, none⟩ = false := fun k => (hb1.frozen (p := ⟨w.heap.size + 1, k, none⟩) (by simp)).trans (by simp [go_sem])
 have HB := Vd (show Below w.heap.size w w1 from zl (by go_grown) (by simp; omega) hb1)
 clear hb1
 obtain ⟨k0, k1, k2, k3, k4⟩ := K
 have f0 := F 0
 have f1 := F 1
 have f2 := F 2
 have f3 := F 3
 have f4 := F 4
 clear F
 go_wp2_with fail
 refine bodyPost_ret (v := .agg #[.string ⟨#[32]⟩, .int .i8 1, .int .i32 t.fg, .int .i32 t.bg, .int .u8 (bI t.at_)]) (by simp [results, Tryz.results48, go_sem, k0, k1, k2, k3, k4]) rfl ⟨rfl, ?_⟩
 repeat (first | with_reducible exact HB.out | refine Below.setCell ?_ (by first | exact Vf | exact Nat.le_succ _) _)
end
section
open Go.RowKit Go.Sort
theorem xQ {B b : Nat} {a w : World} (h : Below B a w) (hb : B <= b) (x y z : Value) : Below B a (((w.setCell ⟨b, 0, none⟩ x).setCell ⟨b, 1, none⟩ y).setCell ⟨b, 2, none⟩ z) := ((h.setCell (p := ⟨b, 0, none⟩) hb x).setCell (p := ⟨b, 1, none⟩) hb y).setCell (p := ⟨b, 2, none⟩) hb z
theorem Gives.to {k : Nat} {args : Array Value} {u v : Value} (h : Gives k args u) (e : u = v) : Gives k args v := e ▸ h
theorem Qu (c d : Int) (hc : zh c) : Gives 58 #[.int .i32 c, .int .i64 d] (.int .i32 (zx c d)) := by
 intro w
 have P1 := Vd (ref_To16 c hc.1 hc.2)
 have P2 := Vd (J7 c hc.1 hc.2)
 clear hc
 by_cases c0 : c = 0
 ·have E : Hid (zx c d = 0) := Vd (by unfold zx; rw [if_pos (Or.inl c0)])
  have g1 : (c == 0) = true := by simpa using c0
  clear c0
  go_enter Tryz.func58, Tryz.ntmps58
  go_wp2_with fail
  go_ret
  exact ⟨zC E.out.symm, Below.refl _ _⟩
 have g1 : (c == 0) = false := by simpa using c0
 have C0 := Vd c0
 clear c0
 by_cases d0 : d <= 0
 ·have E : Hid (zx c d = 0) := Vd (by unfold zx; rw [if_pos (Or.inr d0)])
  go_enter Tryz.func58, Tryz.ntmps58
  go_wp2_with fail
  go_ret
  exact ⟨zC E.out.symm, Below.refl _ _⟩
 by_cases d1 : d = 1
 ·have E : Hid (zx c d = qv c) := Vd (by unfold zx; rw [if_neg (by have := C0.out; omega), if_pos d1])
  subst d1
  go_enter Tryz.func58, Tryz.ntmps58
  go_wp2_with fail
  refine (P1.out _).mono ?_; rintro e w1 ⟨rfl, hb1⟩
  go_wp2_with fail
  go_ret
  exact ⟨zC E.out.symm, hb1⟩
 by_cases d2 : d = 2
 ·have E : Hid (zx c d = qR c) := Vd (by unfold zx; rw [if_neg (by have := C0.out; omega), if_neg d1, if_pos d2])
  subst d2
  go_enter Tryz.func58, Tryz.ntmps58
  go_wp2_with fail
  refine (P2.out _).mono ?_; rintro e w1 ⟨rfl, hb1⟩
  go_wp2_with fail
  go_ret
  exact ⟨zC E.out.symm, hb1⟩
 ·have E : Hid (zx c d = c) := Vd (by unfold zx; rw [if_neg (by have := C0.out; omega), if_neg d1, if_neg d2])
  have g3 : (d == 1) = false := by simpa using d1
  have g4 : (d == 2) = false := by simpa using d2
  clear d1 d2
  go_enter Tryz.func58, Tryz.ntmps58
  go_wp2_with fail
  go_ret
  exact ⟨zC E.out.symm, Below.refl _ _⟩
theorem Qv (c : Int) (h : qm c) : zh c := by rcases h with rfl | h | h <;> exact ⟨by omega, by omega⟩
set_option maxHeartbeats 8000000 in
theorem Xt (s : Sty) (d : Int) (hf : zh s.fg) (hb : zh s.bg) : Gives 37 #[styV s.fg s.bg s.at_, .int .i64 d] (styV (zL s d).fg (zL s d).bg (zL s d).at_) := by
 intro w
 have C0 := Vd (kw s.fg s.bg s.at_ hf hb)
 have C1 := Vd (Qu (plC s.fg) d (Qv _ (qA _)))
 have C2 := Vd (Qu (plC s.bg) d (Qv _ (qA _)))
 have RF : Hid ((zL s d).fg = zx (plC s.fg) d) := Vd rfl
 have RB : Hid ((zL s d).bg = zx (plC s.bg) d) := Vd rfl
 have RA : Hid ((zL s d).at_ = s.at_) := Vd rfl
 generalize zL s d = r at *
 generalize plC s.fg = F at *
 generalize plC s.bg = B at *
 clear hf hb
 go_enter Tryz.func37, Tryz.ntmps37
 go_wp2_with fail
 refine (C0.out _).mono ?_; rintro e w1 ⟨rfl, hb1⟩
 have q2 : C3 w1 (w.heap.size + 1) (.int .i32 0) (.int .i32 0) (.int .u8 0) := C3.keep (by constructor <;> simp [go_sem]) hb1 (by simp)
 have hB1 : Below w.heap.size w w1 := zl (by go_grown) (by simp; omega) hb1
 clear hb1
 have l1 := q2.lt
 have Q2 := Vd (q2.alloc (.cells #[.int .i32 F, .int .i32 B, .int .u8 (bI s.at_)] 56))
 have HB := Vd (hB1.alloc (by omega) (.cells #[.int .i32 F, .int .i32 B, .int .u8 (bI s.at_)] 56))
 have K0 : Hid (C3 (w1.alloc (.cells #[.int .i32 F, .int .i32 B, .int .u8 (bI s.at_)] 56)) w1.heap.size (.int .i32 F) (.int .i32 B) (.int .u8 (bI s.at_))) := Vd (by constructor <;> simp [go_sem])
 obtain ⟨z0, z1, z2, y0, y1, y2⟩ := q2
 clear hB1
 go_wp2_with fail
 refine (C1.out _).mono ?_; rintro e' w2 ⟨rfl, hb2⟩
 have K0' := Vd (K0.out.keep hb2 K0.out.lt)
 have Q2' := Vd (Q2.out.keep hb2 Q2.out.lt)
 have HB' := Vd (zl HB.out HB.out.size hb2)
 clear hb2
 obtain ⟨b0, b1, b2, i0, i1, i2⟩ := K0'.out
 go_wp2_with fail
 refine (C2.out _).mono ?_; rintro e' w3 ⟨rfl, hb3⟩
 obtain ⟨c0, c1, c2, k0, k1, k2⟩ := K0'.out.keep hb3 K0'.out.lt
 obtain ⟨d0, d1, d2, j0, j1, j2⟩ := Q2'.out.keep hb3 Q2'.out.lt
 have HB2 := Vd (zl HB'.out HB'.out.size hb3)
 clear hb3
 go_wp2_with fail
 refine bodyPost_ret (v := styV r.fg r.bg r.at_) (by rw [RF.out, RB.out, RA.out]; simp [results, Tryz.results37, go_sem, d0, d1, d2]) rfl ⟨rfl, ?_⟩
 exact xQ HB2.out (Nat.le_succ _) _ _ _
end
section
open Go.RowKit Go.Sort
theorem st_red1 (c : Int) : Tells 41 #[.int .i32 c] (.int .i32 c) := by
 intro w
 go_enter Tryz.func41, Tryz.ntmps41
 go_wp2
 go_ret
 exact ⟨rfl, rfl⟩
theorem st_red2 (c : Int) : Tells 42 #[.int .i32 c] (.int .i32 0) := by
 intro w
 go_enter Tryz.func42, Tryz.ntmps42
 go_wp2
 go_ret
 exact ⟨rfl, rfl⟩
theorem Tells.gives {k : Nat} {args : Array Value} {v : Value} (h : Tells k args v) : Gives k args v := fun w => (h w).mono fun _ _ ⟨a, b⟩ => ⟨a, by rw [<- b]; exact Below.refl _ _⟩
set_option maxHeartbeats 8000000 in
set_option maxRecDepth 100000 in
theorem Xu (s : Sty) (d : Int) : Gives 24 #[styV s.fg s.bg s.at_, .int .i64 d] (styV (zL s d).fg (zL s d).bg (zL s d).at_) := by
 intro w
 have C0 := Vd (vu s.fg s.bg s.at_)
 have RF : Hid ((zL s d).fg = zx (plC s.fg) d) := Vd rfl
 have RB : Hid ((zL s d).bg = zx (plC s.bg) d) := Vd rfl
 have RA : Hid ((zL s d).at_ = s.at_) := Vd rfl
 have Z0 : Hid (zx 0 d = 0) := Vd (by unfold zx; rw [if_pos (Or.inl rfl)])
 generalize zL s d = r at *
 generalize plC s.fg = F at *
 generalize plC s.bg = B at *
 have fin : ∀ (k : Nat), (∀ c, c ≠ 0 -> Gives k #[.int .i32 c] (.int .i32 (zx c d))) -> Hid (∀ c, c ≠ 0 -> Gives k #[.int .i32 c] (.int .i32 (zx c d))) := fun k h => Vd h
 have cases4 : (d <= 0) \/ (0 < d /\ d = 1) \/ (0 < d /\ d = 2) \/ (0 < d /\ ¬ d = 1 /\ ¬ d = 2) := by omega
 rcases cases4 with d0 | ⟨d0, d1⟩ | ⟨d0, d2⟩ | ⟨d0, d1, d2⟩
 ·have PK := fin 42 (fun c hc => (st_red2 c).gives.to (by unfold zx; rw [if_pos (Or.inr d0)]))
  clear fin
  by_cases f0 : F = 0
  all_goals by_cases b0 : B = 0
  all_goals
   first | (have RF : Hid (r.fg = F) := Vd (by rw [RF.out, f0, Z0.out])) | skip
   first | (have RB : Hid (r.bg = B) := Vd (by rw [RB.out, b0, Z0.out])) | skip
   have F0 := Vd f0
   have B0 := Vd b0
   first | (have g1 : (F != 0) = true := by rw [bne_iff_ne]; exact f0) | (have g1 : (F != 0) = false := by rw [f0]; rfl)
   first | (have g2 : (B != 0) = true := by rw [bne_iff_ne]; exact b0) | (have g2 : (B != 0) = false := by rw [b0]; rfl)
   clear f0 b0
   go_enter Tryz.func24, Tryz.ntmps24
   go_wp2_with fail
   refine (C0.out _).mono ?_; rintro e w1 ⟨rfl, hb1⟩
   have q1 : C3 w1 w.heap.size (.int .i32 s.fg) (.int .i32 s.bg) (.int .u8 (bI s.at_)) := C3.keep (by constructor <;> simp [go_sem]) hb1 (by simp; omega)
   have q2 : C3 w1 (w.heap.size + 1) (.int .i32 0) (.int .i32 0) (.int .u8 0) := C3.keep (by constructor <;> simp [go_sem]) hb1 (by simp)
   have hB1 : Below w.heap.size w w1 := zl (by go_grown) (by simp; omega) hb1
   clear hb1
   have ne : w.heap.size + 1 ≠ w.heap.size := by omega
   have Q1 := Vd (q1.put (.int .i32 F) (.int .i32 B) (.int .u8 (bI s.at_)))
   have Q2 := Vd (((q2.far (b' := w.heap.size) (o := 0) (y := .int .i32 F) ne).far (b' := w.heap.size) (o := 1) (y := .int .i32 B) ne).far (b' := w.heap.size) (o := 2) (y := .int .u8 (bI s.at_)) ne)
   have HB := Vd (xQ hB1 Vf (.int .i32 F) (.int .i32 B) (.int .u8 (bI s.at_)))
   obtain ⟨a0, a1, a2, f0, f1, f2⟩ := q1
   obtain ⟨z0, z1, z2, y0, y1, y2⟩ := q2
   clear hB1 ne
   go_wp2_with fail
  ·refine bodyPost_ret (v := styV r.fg r.bg r.at_) (by rw [RF.out, RB.out, RA.out]; simp [results, Tryz.results24, go_sem, z0, z1, z2]) rfl ⟨rfl, ?_⟩
   repeat (first | with_reducible exact HB.out | refine Below.setCell ?_ (by first | exact Vf | exact Nat.le_succ _) _)
  ·refine (PK.out B B0.out _).mono ?_; rintro e' w2 ⟨rfl, hb2⟩
   have KA := Vd (Q1.out.keep hb2 Q1.out.lt)
   have KB := Vd (Q2.out.keep hb2 Q2.out.lt)
   have KC := Vd (zl HB.out HB.out.size hb2)
   clear hb2
   obtain ⟨b0, b1, b2, i0, i1, i2⟩ := KA.out
   obtain ⟨d0, d1, d2, j0, j1, j2⟩ := KB.out
   go_wp2_with fail
   refine bodyPost_ret (v := styV r.fg r.bg r.at_) (by rw [RF.out, RB.out, RA.out]; simp [results, Tryz.results24, go_sem, d0, d1, d2]) rfl ⟨rfl, ?_⟩
   repeat (first | with_reducible exact KC.out | refine Below.setCell ?_ (by first | exact Vf | exact Nat.le_succ _) _)
  ·refine (PK.out F F0.out _).mono ?_; rintro e' w2 ⟨rfl, hb2⟩
   have KA := Vd (Q1.out.keep hb2 Q1.out.lt)
   have KB := Vd (Q2.out.keep hb2 Q2.out.lt)
   have KC := Vd (zl HB.out HB.out.size hb2)
   clear hb2
   obtain ⟨b0, b1, b2, i0, i1, i2⟩ := KA.out
   obtain ⟨d0, d1, d2, j0, j1, j2⟩ := KB.out
   go_wp2_with fail
   refine bodyPost_ret (v := styV r.fg r.bg r.at_) (by rw [RF.out, RB.out, RA.out]; simp [results, Tryz.results24, go_sem, d0, d1, d2]) rfl ⟨rfl, ?_⟩
   repeat (first | with_reducible exact KC.out | refine Below.setCell ?_ (by first | exact Vf | exact Nat.le_succ _) _)
  ·refine (PK.out F F0.out _).mono ?_; rintro e' w2 ⟨rfl, hb2⟩
   have KA := Vd (Q1.out.keep hb2 Q1.out.lt)
   have KB := Vd (Q2.out.keep hb2 Q2.out.lt)
   have KC := Vd (zl HB.out HB.out.size hb2)
   clear hb2
   obtain ⟨b0, b1, b2, i0, i1, i2⟩ := KA.out
   obtain ⟨d0, d1, d2, j0, j1, j2⟩ := KB.out
   go_wp2_with fail
   have ne : w.heap.size + 1 ≠ w.heap.size := by omega
   have L1 := Vd (KA.out.set0 (.int .i32 (zx F d)))
   have L2 := Vd (KB.out.far (b' := w.heap.size) (o := 0) (y := .int .i32 (zx F d)) ne)
   have L3 := Vd (KC.out.setCell (p := ⟨w.heap.size, 0, none⟩) Vf (.int .i32 (zx F d)))
   clear b0 b1 b2 i0 i1 i2 d0 d1 d2 j0 j1 j2 KA KB KC ne
   refine (PK.out B B0.out _).mono ?_; rintro e' w3 ⟨rfl, hb2⟩
   have KA := Vd (L1.out.keep hb2 L1.out.lt)
   have KB := Vd (L2.out.keep hb2 L2.out.lt)
   have KC := Vd (zl L3.out L3.out.size hb2)
   clear hb2
   obtain ⟨b0, b1, b2, i0, i1, i2⟩ := KA.out
   obtain ⟨d0, d1, d2, j0, j1, j2⟩ := KB.out
   go_wp2_with fail
   refine bodyPost_ret (v := styV r.fg r.bg r.at_) (by rw [RF.out, RB.out, RA.out]; simp [results, Tryz.results24, go_sem, d0, d1, d2]) rfl ⟨rfl, ?_⟩
   repeat (first | with_reducible exact KC.out | refine Below.setCell ?_ (by first | exact Vf | exact Nat.le_succ _) _)
 ·have PK := fin 43 (fun c hc => (J6 c).to (by unfold zx; rw [if_neg (by omega), if_pos d1]))
  have g3 : (d == 1) = true := by simpa using d1
  clear d1
  clear fin
  by_cases f0 : F = 0
  all_goals by_cases b0 : B = 0
  all_goals
   first | (have RF : Hid (r.fg = F) := Vd (by rw [RF.out, f0, Z0.out])) | skip
   first | (have RB : Hid (r.bg = B) := Vd (by rw [RB.out, b0, Z0.out])) | skip
   have F0 := Vd f0
   have B0 := Vd b0
   first | (have g1 : (F != 0) = true := by rw [bne_iff_ne]; exact f0) | (have g1 : (F != 0) = false := by rw [f0]; rfl)
   first | (have g2 : (B != 0) = true := by rw [bne_iff_ne]; exact b0) | (have g2 : (B != 0) = false := by rw [b0]; rfl)
   clear f0 b0
   go_enter Tryz.func24, Tryz.ntmps24
   go_wp2_with fail
   refine (C0.out _).mono ?_; rintro e w1 ⟨rfl, hb1⟩
   have q1 : C3 w1 w.heap.size (.int .i32 s.fg) (.int .i32 s.bg) (.int .u8 (bI s.at_)) := C3.keep (by constructor <;> simp [go_sem]) hb1 (by simp; omega)
   have q2 : C3 w1 (w.heap.size + 1) (.int .i32 0) (.int .i32 0) (.int .u8 0) := C3.keep (by constructor <;> simp [go_sem]) hb1 (by simp)
   have hB1 : Below w.heap.size w w1 := zl (by go_grown) (by simp; omega) hb1
   clear hb1
   have ne : w.heap.size + 1 ≠ w.heap.size := by omega
   have Q1 := Vd (q1.put (.int .i32 F) (.int .i32 B) (.int .u8 (bI s.at_)))
   have Q2 := Vd (((q2.far (b' := w.heap.size) (o := 0) (y := .int .i32 F) ne).far (b' := w.heap.size) (o := 1) (y := .int .i32 B) ne).far (b' := w.heap.size) (o := 2) (y := .int .u8 (bI s.at_)) ne)
   have HB := Vd (xQ hB1 Vf (.int .i32 F) (.int .i32 B) (.int .u8 (bI s.at_)))
   obtain ⟨a0, a1, a2, f0, f1, f2⟩ := q1
   obtain ⟨z0, z1, z2, y0, y1, y2⟩ := q2
   clear hB1 ne
   go_wp2_with fail
  ·refine bodyPost_ret (v := styV r.fg r.bg r.at_) (by rw [RF.out, RB.out, RA.out]; simp [results, Tryz.results24, go_sem, z0, z1, z2]) rfl ⟨rfl, ?_⟩
   repeat (first | with_reducible exact HB.out | refine Below.setCell ?_ (by first | exact Vf | exact Nat.le_succ _) _)
  ·refine (PK.out B B0.out _).mono ?_; rintro e' w2 ⟨rfl, hb2⟩
   have KA := Vd (Q1.out.keep hb2 Q1.out.lt)
   have KB := Vd (Q2.out.keep hb2 Q2.out.lt)
   have KC := Vd (zl HB.out HB.out.size hb2)
   clear hb2
   obtain ⟨b0, b1, b2, i0, i1, i2⟩ := KA.out
   obtain ⟨d0, d1, d2, j0, j1, j2⟩ := KB.out
   go_wp2_with fail
   refine bodyPost_ret (v := styV r.fg r.bg r.at_) (by rw [RF.out, RB.out, RA.out]; simp [results, Tryz.results24, go_sem, d0, d1, d2]) rfl ⟨rfl, ?_⟩
   repeat (first | with_reducible exact KC.out | refine Below.setCell ?_ (by first | exact Vf | exact Nat.le_succ _) _)
  ·refine (PK.out F F0.out _).mono ?_; rintro e' w2 ⟨rfl, hb2⟩
   have KA := Vd (Q1.out.keep hb2 Q1.out.lt)
   have KB := Vd (Q2.out.keep hb2 Q2.out.lt)
   have KC := Vd (zl HB.out HB.out.size hb2)
   clear hb2
   obtain ⟨b0, b1, b2, i0, i1, i2⟩ := KA.out
   obtain ⟨d0, d1, d2, j0, j1, j2⟩ := KB.out
   go_wp2_with fail
   refine bodyPost_ret (v := styV r.fg r.bg r.at_) (by rw [RF.out, RB.out, RA.out]; simp [results, Tryz.results24, go_sem, d0, d1, d2]) rfl ⟨rfl, ?_⟩
   repeat (first | with_reducible exact KC.out | refine Below.setCell ?_ (by first | exact Vf | exact Nat.le_succ _) _)
  ·refine (PK.out F F0.out _).mono ?_; rintro e' w2 ⟨rfl, hb2⟩
   have KA := Vd (Q1.out.keep hb2 Q1.out.lt)
   have KB := Vd (Q2.out.keep hb2 Q2.out.lt)
   have KC := Vd (zl HB.out HB.out.size hb2)
   clear hb2
   obtain ⟨b0, b1, b2, i0, i1, i2⟩ := KA.out
   obtain ⟨d0, d1, d2, j0, j1, j2⟩ := KB.out
   go_wp2_with fail
   have ne : w.heap.size + 1 ≠ w.heap.size := by omega
   have L1 := Vd (KA.out.set0 (.int .i32 (zx F d)))
   have L2 := Vd (KB.out.far (b' := w.heap.size) (o := 0) (y := .int .i32 (zx F d)) ne)
   have L3 := Vd (KC.out.setCell (p := ⟨w.heap.size, 0, none⟩) Vf (.int .i32 (zx F d)))
   clear b0 b1 b2 i0 i1 i2 d0 d1 d2 j0 j1 j2 KA KB KC ne
   refine (PK.out B B0.out _).mono ?_; rintro e' w3 ⟨rfl, hb2⟩
   have KA := Vd (L1.out.keep hb2 L1.out.lt)
   have KB := Vd (L2.out.keep hb2 L2.out.lt)
   have KC := Vd (zl L3.out L3.out.size hb2)
   clear hb2
   obtain ⟨b0, b1, b2, i0, i1, i2⟩ := KA.out
   obtain ⟨d0, d1, d2, j0, j1, j2⟩ := KB.out
   go_wp2_with fail
   refine bodyPost_ret (v := styV r.fg r.bg r.at_) (by rw [RF.out, RB.out, RA.out]; simp [results, Tryz.results24, go_sem, d0, d1, d2]) rfl ⟨rfl, ?_⟩
   repeat (first | with_reducible exact KC.out | refine Below.setCell ?_ (by first | exact Vf | exact Nat.le_succ _) _)
 ·have PK := fin 44 (fun c hc => (J4 c).to (by unfold zx; rw [if_neg (by omega), if_neg (by omega), if_pos d2]))
  have g3 : (d == 1) = false := by simp; omega
  have g4 : (d == 2) = true := by simpa using d2
  clear d2
  clear fin
  by_cases f0 : F = 0
  all_goals by_cases b0 : B = 0
  all_goals
   first | (have RF : Hid (r.fg = F) := Vd (by rw [RF.out, f0, Z0.out])) | skip
   first | (have RB : Hid (r.bg = B) := Vd (by rw [RB.out, b0, Z0.out])) | skip
   have F0 := Vd f0
   have B0 := Vd b0
   first | (have g1 : (F != 0) = true := by rw [bne_iff_ne]; exact f0) | (have g1 : (F != 0) = false := by rw [f0]; rfl)
   first | (have g2 : (B != 0) = true := by rw [bne_iff_ne]; exact b0) | (have g2 : (B != 0) = false := by rw [b0]; rfl)
   clear f0 b0
   go_enter Tryz.func24, Tryz.ntmps24
   go_wp2_with fail
   refine (C0.out _).mono ?_; rintro e w1 ⟨rfl, hb1⟩
   have q1 : C3 w1 w.heap.size (.int .i32 s.fg) (.int .i32 s.bg) (.int .u8 (bI s.at_)) := C3.keep (by constructor <;> simp [go_sem]) hb1 (by simp; omega)
   have q2 : C3 w1 (w.heap.size + 1) (.int .i32 0) (.int .i32 0) (.int .u8 0) := C3.keep (by constructor <;> simp [go_sem]) hb1 (by simp)
   have hB1 : Below w.heap.size w w1 := zl (by go_grown) (by simp; omega) hb1
   clear hb1
   have ne : w.heap.size + 1 ≠ w.heap.size := by omega
   have Q1 := Vd (q1.put (.int .i32 F) (.int .i32 B) (.int .u8 (bI s.at_)))
   have Q2 := Vd (((q2.far (b' := w.heap.size) (o := 0) (y := .int .i32 F) ne).far (b' := w.heap.size) (o := 1) (y := .int .i32 B) ne).far (b' := w.heap.size) (o := 2) (y := .int .u8 (bI s.at_)) ne)
   have HB := Vd (xQ hB1 Vf (.int .i32 F) (.int .i32 B) (.int .u8 (bI s.at_)))
   obtain ⟨a0, a1, a2, f0, f1, f2⟩ := q1
   obtain ⟨z0, z1, z2, y0, y1, y2⟩ := q2
   clear hB1 ne
   go_wp2_with fail
  ·refine bodyPost_ret (v := styV r.fg r.bg r.at_) (by rw [RF.out, RB.out, RA.out]; simp [results, Tryz.results24, go_sem, z0, z1, z2]) rfl ⟨rfl, ?_⟩
   repeat (first | with_reducible exact HB.out | refine Below.setCell ?_ (by first | exact Vf | exact Nat.le_succ _) _)
  ·refine (PK.out B B0.out _).mono ?_; rintro e' w2 ⟨rfl, hb2⟩
   have KA := Vd (Q1.out.keep hb2 Q1.out.lt)
   have KB := Vd (Q2.out.keep hb2 Q2.out.lt)
   have KC := Vd (zl HB.out HB.out.size hb2)
   clear hb2
   obtain ⟨b0, b1, b2, i0, i1, i2⟩ := KA.out
   obtain ⟨d0, d1, d2, j0, j1, j2⟩ := KB.out
   go_wp2_with fail
   refine bodyPost_ret (v := styV r.fg r.bg r.at_) (by rw [RF.out, RB.out, RA.out]; simp [results, Tryz.results24, go_sem, d0, d1, d2]) rfl ⟨rfl, ?_⟩
   repeat (first | with_reducible exact KC.out | refine Below.setCell ?_ (by first | exact Vf | exact Nat.le_succ _) _)
  ·refine (PK.out F F0.out _).mono ?_; rintro e' w2 ⟨rfl, hb2⟩
   have KA := Vd (Q1.out.keep hb2 Q1.out.lt)
   have KB := Vd (Q2.out.keep hb2 Q2.out.lt)
   have KC := Vd (zl HB.out HB.out.size hb2)
   clear hb2
   obtain ⟨b0, b1, b2, i0, i1, i2⟩ := KA.out
   obtain ⟨d0, d1, d2, j0, j1, j2⟩ := KB.out
   go_wp2_with fail
   refine bodyPost_ret (v := styV r.fg r.bg r.at_) (by rw [RF.out, RB.out, RA.out]; simp [results, Tryz.results24, go_sem, d0, d1, d2]) rfl ⟨rfl, ?_⟩
   repeat (first | with_reducible exact KC.out | refine Below.setCell ?_ (by first | exact Vf | exact Nat.le_succ _) _)
  ·refine (PK.out F F0.out _).mono ?_; rintro e' w2 ⟨rfl, hb2⟩
   have KA := Vd (Q1.out.keep hb2 Q1.out.lt)
   have KB := Vd (Q2.out.keep hb2 Q2.out.lt)
   have KC := Vd (zl HB.out HB.out.size hb2)
   clear hb2
   obtain ⟨b0, b1, b2, i0, i1, i2⟩ := KA.out
   obtain ⟨d0, d1, d2, j0, j1, j2⟩ := KB.out
   go_wp2_with fail
   have ne : w.heap.size + 1 ≠ w.heap.size := by omega
   have L1 := Vd (KA.out.set0 (.int .i32 (zx F d)))
   have L2 := Vd (KB.out.far (b' := w.heap.size) (o := 0) (y := .int .i32 (zx F d)) ne)
   have L3 := Vd (KC.out.setCell (p := ⟨w.heap.size, 0, none⟩) Vf (.int .i32 (zx F d)))
   clear b0 b1 b2 i0 i1 i2 d0 d1 d2 j0 j1 j2 KA KB KC ne
   refine (PK.out B B0.out _).mono ?_; rintro e' w3 ⟨rfl, hb2⟩
   have KA := Vd (L1.out.keep hb2 L1.out.lt)
   have KB := Vd (L2.out.keep hb2 L2.out.lt)
   have KC := Vd (zl L3.out L3.out.size hb2)
   clear hb2
   obtain ⟨b0, b1, b2, i0, i1, i2⟩ := KA.out
   obtain ⟨d0, d1, d2, j0, j1, j2⟩ := KB.out
   go_wp2_with fail
   refine bodyPost_ret (v := styV r.fg r.bg r.at_) (by rw [RF.out, RB.out, RA.out]; simp [results, Tryz.results24, go_sem, d0, d1, d2]) rfl ⟨rfl, ?_⟩
   repeat (first | with_reducible exact KC.out | refine Below.setCell ?_ (by first | exact Vf | exact Nat.le_succ _) _)
 ·have PK := fin 41 (fun c hc => (st_red1 c).gives.to (by unfold zx; rw [if_neg (by omega), if_neg d1, if_neg d2]))
  have g3 : (d == 1) = false := by simpa using d1
  have g4 : (d == 2) = false := by simpa using d2
  clear d1 d2
  clear fin
  by_cases f0 : F = 0
  all_goals by_cases b0 : B = 0
  all_goals
   first | (have RF : Hid (r.fg = F) := Vd (by rw [RF.out, f0, Z0.out])) | skip
   first | (have RB : Hid (r.bg = B) := Vd (by rw [RB.out, b0, Z0.out])) | skip
   have F0 := Vd f0
   have B0 := Vd b0
   first | (have g1 : (F != 0) = true := by rw [bne_iff_ne]; exact f0) | (have g1 : (F != 0) = false := by rw [f0]; rfl)
   first | (have g2 : (B != 0) = true := by rw [bne_iff_ne]; exact b0) | (have g2 : (B != 0) = false := by rw [b0]; rfl)
   clear f0 b0
   go_enter Tryz.func24, Tryz.ntmps24
   go_wp2_with fail
   refine (C0.out _).mono ?_; rintro e w1 ⟨rfl, hb1⟩
   have q1 : C3 w1 w.heap.size (.int .i32 s.fg) (.int .i32 s.bg) (.int .u8 (bI s.at_)) := C3.keep (by constructor <;> simp [go_sem]) hb1 (by simp; omega)
   have q2 : C3 w1 (w.heap.size + 1) (.int .i32 0) (.int .i32 0) (.int .u8 0) := C3.keep (by constructor <;> simp [go_sem]) hb1 (by simp)
   have hB1 : Below w.heap.size w w1 := zl (by go_grown) (by simp; omega) hb1
   clear hb1
   have ne : w.heap.size + 1 ≠ w.heap.size := by omega
   have Q1 := Vd (q1.put (.int .i32 F) (.int .i32 B) (.int .u8 (bI s.at_)))
   have Q2 := Vd (((q2.far (b' := w.heap.size) (o := 0) (y := .int .i32 F) ne).far (b' := w.heap.size) (o := 1) (y := .int .i32 B) ne).far (b' := w.heap.size) (o := 2) (y := .int .u8 (bI s.at_)) ne)
   have HB := Vd (xQ hB1 Vf (.int .i32 F) (.int .i32 B) (.int .u8 (bI s.at_)))
   obtain ⟨a0, a1, a2, f0, f1, f2⟩ := q1
   obtain ⟨z0, z1, z2, y0, y1, y2⟩ := q2
   clear hB1 ne
   go_wp2_with fail
  ·refine bodyPost_ret (v := styV r.fg r.bg r.at_) (by rw [RF.out, RB.out, RA.out]; simp [results, Tryz.results24, go_sem, z0, z1, z2]) rfl ⟨rfl, ?_⟩
   repeat (first | with_reducible exact HB.out | refine Below.setCell ?_ (by first | exact Vf | exact Nat.le_succ _) _)
  ·refine (PK.out B B0.out _).mono ?_; rintro e' w2 ⟨rfl, hb2⟩
   have KA := Vd (Q1.out.keep hb2 Q1.out.lt)
   have KB := Vd (Q2.out.keep hb2 Q2.out.lt)
   have KC := Vd (zl HB.out HB.out.size hb2)
   clear hb2
   obtain ⟨b0, b1, b2, i0, i1, i2⟩ := KA.out
   obtain ⟨d0, d1, d2, j0, j1, j2⟩ := KB.out
   go_wp2_with fail
   refine bodyPost_ret (v := styV r.fg r.bg r.at_) (by rw [RF.out, RB.out, RA.out]; simp [results, Tryz.results24, go_sem, d0, d1, d2]) rfl ⟨rfl, ?_⟩
   repeat (first | with_reducible exact KC.out | refine Below.setCell ?_ (by first | exact Vf | exact Nat.le_succ _) _)
  ·refine (PK.out F F0.out _).mono ?_; rintro e' w2 ⟨rfl, hb2⟩
   have KA := Vd (Q1.out.keep hb2 Q1.out.lt)
   have KB := Vd (Q2.out.keep hb2 Q2.out.lt)
   have KC := Vd (zl HB.out HB.out.size hb2)
   clear hb2
   obtain ⟨b0, b1, b2, i0, i1, i2⟩ := KA.out
   obtain ⟨d0, d1, d2, j0, j1, j2⟩ := KB.out
   go_wp2_with fail
   refine bodyPost_ret (v := styV r.fg r.bg r.at_) (by rw [RF.out, RB.out, RA.out]; simp [results, Tryz.results24, go_sem, d0, d1, d2]) rfl ⟨rfl, ?_⟩
   repeat (first | with_reducible exact KC.out | refine Below.setCell ?_ (by first | exact Vf | exact Nat.le_succ _) _)
  ·refine (PK.out F F0.out _).mono ?_; rintro e' w2 ⟨rfl, hb2⟩
   have KA := Vd (Q1.out.keep hb2 Q1.out.lt)
   have KB := Vd (Q2.out.keep hb2 Q2.out.lt)
   have KC := Vd (zl HB.out HB.out.size hb2)
   clear hb2
   obtain ⟨b0, b1, b2, i0, i1, i2⟩ := KA.out
   obtain ⟨d0, d1, d2, j0, j1, j2⟩ := KB.out
   go_wp2_with fail
   have ne : w.heap.size + 1 ≠ w.heap.size := by omega
   have L1 := Vd (KA.out.set0 (.int .i32 (zx F d)))
   have L2 := Vd (KB.out.far (b' := w.heap.size) (o := 0) (y := .int .i32 (zx F d)) ne)
   have L3 := Vd (KC.out.setCell (p := ⟨w.heap.size, 0, none⟩) Vf (.int .i32 (zx F d)))
   clear b0 b1 b2 i0 i1 i2 d0 d1 d2 j0 j1 j2 KA KB KC ne
   refine (PK.out B B0.out _).mono ?_; rintro e' w3 ⟨rfl, hb2⟩
   have KA := Vd (L1.out.keep hb2 L1.out.lt)
   have KB := Vd (L2.out.keep hb2 L2.out.lt)
   have KC := Vd (zl L3.out L3.out.size hb2)
   clear hb2
   obtain ⟨b0, b1, b2, i0, i1, i2⟩ := KA.out
   obtain ⟨d0, d1, d2, j0, j1, j2⟩ := KB.out
   go_wp2_with fail
   refine bodyPost_ret (v := styV r.fg r.bg r.at_) (by rw [RF.out, RB.out, RA.out]; simp [results, Tryz.results24, go_sem, d0, d1, d2]) rfl ⟨rfl, ?_⟩
   repeat (first | with_reducible exact KC.out | refine Below.setCell ?_ (by first | exact Vf | exact Nat.le_succ _) _)
end
end Go.Proofs.YtifoijbpbigaaaaGreatDoor
