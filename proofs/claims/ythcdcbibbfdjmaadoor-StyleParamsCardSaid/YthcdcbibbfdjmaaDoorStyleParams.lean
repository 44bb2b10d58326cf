/- StyleParams (fresco/frescolaw06): the statement, out of the walk. The frame is the guide's. -/
import Derived.Test.YthcdcbibbfdjmaaDoorStyPa
import Derived.Test.YthcdcbibbfdjmaaDoorStyAv
import Derived.Test.YthcdcbibbfdjmaaDoorRows
import Derived.Test.YthcdcbibbfdjmaaDoorCards
import Derived.Test.YthcdcbibbfdjmaaDoorTie
import Derived.SevenTiedAt
import Derived.LaidMore
import Derived.Stop.Joined
import Derived.SizedLaws
import Derived.ProofKit
import Derived.OpenShut
import Derived.ShutString
import Derived.Laws.Cover2
import Derived.ChangeOld
import Derived.Below
import Derived.Lib.SmallJoins
namespace Go.Proofs.YthcdcbibbfdjmaaDoor.styleParams
open Go.ChangeShapes Go.WideShapes Go.ChangeAt Go.RowKit
open Go.ChangeMaps (open_string shut_string)
set_option linter.unusedVariables false

theorem laidOut : laidOutB Tryd.prog = true := by kernel_rfl
theorem own : ownKnob Tryd.prog.godebug = none := by kernel_rfl

/-- The door's own heap meets the condition. -/
theorem door_met (os : Os) (args : Array Value) : laidMetH Tryd.prog Rows.styleParamsRow.laid ((World.doorLaid Tryd.prog 4000 os).forCall (fun _ _ => 0) ⟨#[], args, []⟩).memory :=
  laidMetH_of_parts3 (fuel := 8) (laidMet_of_run' 8 (by kernel_rfl) (by kernel_rfl)) (by kernel_rfl) (by kernel_rfl)

set_option maxRecDepth 100000 in
theorem lifted (os : Os) (started : os.Started) (H : Type) (enc : TypeId × Value → H) :
    ReturnsInHanded {} Tryd.checked os 3 .any (fun w args => (Rows.styleParamsSpec.pre enc Tryd.prog Tryd.f3 [] false w args ∧ laidMetH Tryd.prog Rows.styleParamsRow.laid w) ∧ sizedMet enc Tryd.prog Tryd.f3 (OpenSpec.ofChange Rows.styleParamsSpec) false w args)
      (Rows.styleParamsSpec.post enc Tryd.prog Tryd.f3 false true false false) := by
  refine returnsInHanded_of_change_and (C := Tryd.checked) (X := fun w _ => laidMetH Tryd.prog Rows.styleParamsRow.laid w) (fun _ _ _ hh h => h.of_heap hh) own started (by kernel_rfl) Tryd.func3
    (ChangeSpec.witness_shaped (enc := enc) (C := Tryd.checked) (os := os) (X := fun w _ => laidMetH Tryd.prog Rows.styleParamsRow.laid w) false (World.doorLaid Tryd.prog 4000 os) #[.agg #[.int .i32 0, .int .i32 0, .int .u8 0], .agg #[.int .i32 0, .int .i32 0, .int .u8 0], .agg #[.int .i32 0, .int .i32 0, .int .u8 0]] 8 rfl (World.shaped_of_RefB (by kernel_rfl) (by kernel_rfl)) (by kernel_rfl) (by kernel_rfl) (by kernel_rfl) (door_met os _)) ?_
  intro W base args ds gs before hval0 hW hcnd hsz hL _
  have hval : ∀ (j : Nat) t v, Tryd.f3.params[j]? = some t → args[j]? = some v → Value.okWide Tryd.prog W .any base t v := hval0
  have hW' := hW
  obtain ⟨p, q, hA0, hV, rfl, hfz, hnd⟩ := hW
  have hA : DataW.TrodAll enc Tryd.prog W 0 (fun _ => true) true Tryd.f3.params.toList args.toList ds p := hA0
  rw [Tryd.params3] at hA hval
  obtain ⟨v0, vs0, d0, ds0, p0, q0, hargs, rfl, rfl, h0, r0⟩ := trodAll_cons hA
  obtain ⟨v1, vs1, d1, ds1, p1, q1, rfl, rfl, rfl, h1, r1⟩ := trodAll_cons r0
  obtain ⟨v2, vs2, d2, ds2, p2, q2, rfl, rfl, rfl, h2, r2⟩ := trodAll_cons r1
  obtain ⟨rfl, rfl, rfl⟩ := trodAll_nil r2
  obtain rfl : args = #[v0, v1, v2] := by cases args; simp_all
  obtain ⟨rfl, rfl⟩ := trodVars_none hV
  have k0 := h0
  have lt0 : ∀ x ∈ p0, x.block < W.heap.size := by obtain ⟨m, hm⟩ := k0; exact DataW.trod_lt m _ _ _ hm
  obtain ⟨c00, c01, c02, y00, y01, y02, m0, rfl, rfl, rfl, t00, t01, t02⟩ := Joins.open_agg3 Tryd.underlying24 (by kernel_rfl) (by kernel_rfl) (hval 0 24 v0 rfl rfl) h0
  obtain ⟨fg0, e00, rfl, wfg0⟩ := DataW.trod_int Tryd.underlying22 t00
  obtain rfl := (List.cons.inj e00).1
  obtain ⟨bg0, e01, rfl, wbg0⟩ := DataW.trod_int Tryd.underlying22 t01
  obtain rfl := (List.cons.inj e01).1
  obtain ⟨atx0, e02, rfl, wat0⟩ := DataW.trod_int Tryd.underlying5 t02
  obtain rfl := (List.cons.inj e02).1
  obtain ⟨at0, rfl⟩ : ∃ b : B8, atx0 = bI b := by
    have bw := bounds_u8 wat0
    obtain ⟨b, hb⟩ := bI_of atx0 (by omega) (by omega)
    exact ⟨b, hb.symm⟩
  have k1 := h1
  have lt1 : ∀ x ∈ p1, x.block < W.heap.size := by obtain ⟨m, hm⟩ := k1; exact DataW.trod_lt m _ _ _ hm
  obtain ⟨c10, c11, c12, y10, y11, y12, m1, rfl, rfl, rfl, t10, t11, t12⟩ := Joins.open_agg3 Tryd.underlying24 (by kernel_rfl) (by kernel_rfl) (hval 1 24 v1 rfl rfl) h1
  obtain ⟨fg1, e10, rfl, wfg1⟩ := DataW.trod_int Tryd.underlying22 t10
  obtain rfl := (List.cons.inj e10).1
  obtain ⟨bg1, e11, rfl, wbg1⟩ := DataW.trod_int Tryd.underlying22 t11
  obtain rfl := (List.cons.inj e11).1
  obtain ⟨atx1, e12, rfl, wat1⟩ := DataW.trod_int Tryd.underlying5 t12
  obtain rfl := (List.cons.inj e12).1
  obtain ⟨at1, rfl⟩ : ∃ b : B8, atx1 = bI b := by
    have bw := bounds_u8 wat1
    obtain ⟨b, hb⟩ := bI_of atx1 (by omega) (by omega)
    exact ⟨b, hb.symm⟩
  have k2 := h2
  have lt2 : ∀ x ∈ p2, x.block < W.heap.size := by obtain ⟨m, hm⟩ := k2; exact DataW.trod_lt m _ _ _ hm
  obtain ⟨c20, c21, c22, y20, y21, y22, m2, rfl, rfl, rfl, t20, t21, t22⟩ := Joins.open_agg3 Tryd.underlying24 (by kernel_rfl) (by kernel_rfl) (hval 2 24 v2 rfl rfl) h2
  obtain ⟨fg2, e20, rfl, wfg2⟩ := DataW.trod_int Tryd.underlying22 t20
  obtain rfl := (List.cons.inj e20).1
  obtain ⟨bg2, e21, rfl, wbg2⟩ := DataW.trod_int Tryd.underlying22 t21
  obtain rfl := (List.cons.inj e21).1
  obtain ⟨atx2, e22, rfl, wat2⟩ := DataW.trod_int Tryd.underlying5 t22
  obtain rfl := (List.cons.inj e22).1
  obtain ⟨at2, rfl⟩ : ∃ b : B8, atx2 = bI b := by
    have bw := bounds_u8 wat2
    obtain ⟨b, hb⟩ := bI_of atx2 (by omega) (by omega)
    exact ⟨b, hb.symm⟩
  clear hA0 hval0
  simp only [List.append_nil] at hW'
  refine (styleParams_walk ⟨fg0, bg0, at0⟩ ⟨fg1, bg1, at1⟩ ⟨fg2, bg2, at2⟩ (bounds_i32 wfg0) (bounds_i32 wbg0) (bounds_i32 wfg1) (bounds_i32 wbg1) (bounds_i32 wfg2) (bounds_i32 wbg2) W (env_all hL).2.1 (alive_all hL)).mono fun e W' ⟨he, bel⟩ => ?_
  subst he
  exact ⟨_, rfl, _, _, _, [], _, [], hW', trodAll_mk1 (shut_bool Tryd.underlying4 _), (trodAll_cons_mk (Below.trod laidOut (by kernel_rfl) (of_decide_eq_true (by kernel_rfl)) k0 bel lt0) (trodAll_cons_mk (Below.trod laidOut (by kernel_rfl) (of_decide_eq_true (by kernel_rfl)) k1 bel lt1) (trodAll_cons_mk (Below.trod laidOut (by kernel_rfl) (of_decide_eq_true (by kernel_rfl)) k2 bel lt2) trodAll_mk0))), rfl, bel.frame _, fun h => by cases h⟩

theorem over : Rows.styleParamsRow.holds Tryd.pinned (OpenSpec.ofChange Rows.styleParamsSpec) :=
  OpenClaim.holds_of_wide 3 Tryd.f3 rfl rfl rfl rfl rfl rfl rfl ⟨rfl, rfl, rfl, rfl, rfl⟩ rfl rfl rfl rfl rfl (by kernel_rfl) Tryd.func3 (by kernel_rfl)
    (of_decide_eq_true (by kernel_rfl)) (by unfold Func.isWrapper; first | (rw [if_pos (by decide +kernel)]; kernel_rfl) | (rw [if_neg (by decide +kernel)]; exact ⟨rfl, rfl⟩))
    (fun os started H enc _ => lifted os started H enc)

theorem plain (f : FuncId) (fn : Func) (hf : Tryd.pinned.checked.prog.funcNamed "fresco/frescolaw06.StyleParams" = some f) (hfn : Tryd.pinned.checked.prog.funcs[f]? = some fn) :
    true = Tryd.pinned.checked.prog.looks [] ∧ ∀ (j : Nat) t, fn.params[j]? = some t → Tryd.pinned.checked.prog.wantsStandIn t = false := by
  obtain rfl : f = 3 := Option.some.inj ((show Tryd.prog.funcNamed "fresco/frescolaw06.StyleParams" = some 3 by kernel_rfl).symm.trans hf) |>.symm
  obtain rfl : fn = Tryd.f3 := (Option.some.inj (Tryd.func3.symm.trans hfn)).symm
  refine ⟨by kernel_rfl, fun j t ht => ?_⟩
  rw [Tryd.params3] at ht
  have hm : t ∈ [24, 24, 24] := by simpa using Array.mem_of_getElem? ht
  have hall : ([24, 24, 24].all fun u => !Tryd.prog.wantsStandIn u) = true := by kernel_rfl
  exact (show Tryd.prog.wantsStandIn t = false by simpa using List.all_eq_true.1 hall t hm)

theorem proved : Rows.StyleParamsCardSaid :=
  Claim7.holds_tied_plain_at .later [] _ _ _ _ over (fun _ h => by cases h) (by kernel_rfl) (fun _ h => by cases h) styleParams_row_tie rfl ⟨rfl, rfl⟩ (by kernel_rfl) rfl plain (by kernel_rfl)
#print axioms proved
end Go.Proofs.YthcdcbibbfdjmaaDoor.styleParams
