/- StyleThen (fresco/frescolaw06): the statement, out of the walk. The frame is the guide's. -/
import Derived.Test.YthcdcbibbfdjmaaDoorStyTh
import Derived.Test.YthcdcbibbfdjmaaDoorStyAv
import Derived.Test.YthcdcbibbfdjmaaDoorRows
import Derived.Test.YthcdcbibbfdjmaaDoorCards
import Derived.Test.YthcdcbibbfdjmaaDoorTie
import Derived.SevenTiedAt
import Derived.LaidMore
import Derived.Stop.Joined
import Derived.SizedLaws
import Derived.ProofKit
import Derived.OpenShut
import Derived.ShutString
import Derived.Laws.Cover2
import Derived.ChangeOld
import Derived.Below
import Derived.Lib.SmallJoins
namespace Go.Proofs.YthcdcbibbfdjmaaDoor.styleThen
open Go.ChangeShapes Go.WideShapes Go.ChangeAt Go.RowKit
open Go.ChangeMaps (open_string shut_string)
set_option linter.unusedVariables false

theorem laidOut : laidOutB Tryd.prog = true := by kernel_rfl
theorem own : ownKnob Tryd.prog.godebug = none := by kernel_rfl

/-- The door's own heap meets the condition. -/
theorem door_met (os : Os) (args : Array Value) : laidMetH Tryd.prog Rows.styleThenRow.laid ((World.doorLaid Tryd.prog 4000 os).forCall (fun _ _ => 0) ⟨#[], args, []⟩).memory :=
  laidMetH_of_parts3 (fuel := 8) (laidMet_of_run' 8 (by kernel_rfl) (by kernel_rfl)) (by kernel_rfl) (by kernel_rfl)

set_option maxRecDepth 100000 in
theorem lifted (os : Os) (started : os.Started) (H : Type) (enc : TypeId × Value → H) :
    ReturnsInHanded {} Tryd.checked os 8 .any (fun w args => (Rows.styleThenSpec.pre enc Tryd.prog Tryd.f8 [] false w args ∧ laidMetH Tryd.prog Rows.styleThenRow.laid w) ∧ sizedMet enc Tryd.prog Tryd.f8 (OpenSpec.ofChange Rows.styleThenSpec) false w args)
      (Rows.styleThenSpec.post enc Tryd.prog Tryd.f8 false true false false) := by
  refine returnsInHanded_of_change_and (C := Tryd.checked) (X := fun w _ => laidMetH Tryd.prog Rows.styleThenRow.laid w) (fun _ _ _ hh h => h.of_heap hh) own started (by kernel_rfl) Tryd.func8
    (ChangeSpec.witness_shaped (enc := enc) (C := Tryd.checked) (os := os) (X := fun w _ => laidMetH Tryd.prog Rows.styleThenRow.laid w) false (World.doorLaid Tryd.prog 4000 os) #[.agg #[.int .i32 0, .int .i32 0, .int .u8 0], .agg #[.int .i32 0, .int .i32 0, .int .u8 0, .int .u8 0], .agg #[.int .i32 0, .int .i32 0, .int .u8 0, .int .u8 0], .agg #[.int .i32 0, .int .i32 0, .int .u8 0, .int .u8 0]] 8 rfl (World.shaped_of_RefB (by kernel_rfl) (by kernel_rfl)) (by kernel_rfl) (by kernel_rfl) (by kernel_rfl) (door_met os _)) ?_
  intro W base args ds gs before hval0 hW hcnd hsz hL _
  have hval : ∀ (j : Nat) t v, Tryd.f8.params[j]? = some t → args[j]? = some v → Value.okWide Tryd.prog W .any base t v := hval0
  have hW' := hW
  obtain ⟨p, q, hA0, hV, rfl, hfz, hnd⟩ := hW
  have hA : DataW.TrodAll enc Tryd.prog W 0 (fun _ => true) true Tryd.f8.params.toList args.toList ds p := hA0
  rw [Tryd.params8] at hA hval
  obtain ⟨v0, vs0, d0, ds0, p0, q0, hargs, rfl, rfl, h0, r0⟩ := trodAll_cons hA
  obtain ⟨v1, vs1, d1, ds1, p1, q1, rfl, rfl, rfl, h1, r1⟩ := trodAll_cons r0
  obtain ⟨v2, vs2, d2, ds2, p2, q2, rfl, rfl, rfl, h2, r2⟩ := trodAll_cons r1
  obtain ⟨v3, vs3, d3, ds3, p3, q3, rfl, rfl, rfl, h3, r3⟩ := trodAll_cons r2
  obtain ⟨rfl, rfl, rfl⟩ := trodAll_nil r3
  obtain rfl : args = #[v0, v1, v2, v3] := by cases args; simp_all
  obtain ⟨rfl, rfl⟩ := trodVars_none hV
  have k0 := h0
  have lt0 : ∀ x ∈ p0, x.block < W.heap.size := by obtain ⟨m, hm⟩ := k0; exact DataW.trod_lt m _ _ _ hm
  obtain ⟨c00, c01, c02, y00, y01, y02, m0, rfl, rfl, rfl, t00, t01, t02⟩ := Joins.open_agg3 Tryd.underlying24 (by kernel_rfl) (by kernel_rfl) (hval 0 24 v0 rfl rfl) h0
  obtain ⟨fg0, e00, rfl, wfg0⟩ := DataW.trod_int Tryd.underlying22 t00
  obtain rfl := (List.cons.inj e00).1
  obtain ⟨bg0, e01, rfl, wbg0⟩ := DataW.trod_int Tryd.underlying22 t01
  obtain rfl := (List.cons.inj e01).1
  obtain ⟨atx0, e02, rfl, wat0⟩ := DataW.trod_int Tryd.underlying5 t02
  obtain rfl := (List.cons.inj e02).1
  obtain ⟨at0, rfl⟩ : ∃ b : B8, atx0 = bI b := by
    have bw := bounds_u8 wat0
    obtain ⟨b, hb⟩ := bI_of atx0 (by omega) (by omega)
    exact ⟨b, hb.symm⟩
  have k1 := h1
  have lt1 : ∀ x ∈ p1, x.block < W.heap.size := by obtain ⟨m, hm⟩ := k1; exact DataW.trod_lt m _ _ _ hm
  obtain ⟨c10, c11, c12, c13, y10, y11, y12, y13, m1, rfl, rfl, rfl, t10, t11, t12, t13⟩ := Joins.open_agg4 Tryd.underlying36 (by kernel_rfl) (by kernel_rfl) (hval 1 36 v1 rfl rfl) h1
  obtain ⟨fg1, e10, rfl, wfg1⟩ := DataW.trod_int Tryd.underlying22 t10
  obtain rfl := (List.cons.inj e10).1
  obtain ⟨bg1, e11, rfl, wbg1⟩ := DataW.trod_int Tryd.underlying22 t11
  obtain rfl := (List.cons.inj e11).1
  obtain ⟨adx1, e12, rfl, wad1⟩ := DataW.trod_int Tryd.underlying5 t12
  obtain rfl := (List.cons.inj e12).1
  obtain ⟨ad1, rfl⟩ : ∃ b : B8, adx1 = bI b := by
    have bw := bounds_u8 wad1
    obtain ⟨b, hb⟩ := bI_of adx1 (by omega) (by omega)
    exact ⟨b, hb.symm⟩
  obtain ⟨drx1, e13, rfl, wdr1⟩ := DataW.trod_int Tryd.underlying5 t13
  obtain rfl := (List.cons.inj e13).1
  obtain ⟨dr1, rfl⟩ : ∃ b : B8, drx1 = bI b := by
    have bw := bounds_u8 wdr1
    obtain ⟨b, hb⟩ := bI_of drx1 (by omega) (by omega)
    exact ⟨b, hb.symm⟩
  have k2 := h2
  have lt2 : ∀ x ∈ p2, x.block < W.heap.size := by obtain ⟨m, hm⟩ := k2; exact DataW.trod_lt m _ _ _ hm
  obtain ⟨c20, c21, c22, c23, y20, y21, y22, y23, m2, rfl, rfl, rfl, t20, t21, t22, t23⟩ := Joins.open_agg4 Tryd.underlying36 (by kernel_rfl) (by kernel_rfl) (hval 2 36 v2 rfl rfl) h2
  obtain ⟨fg2, e20, rfl, wfg2⟩ := DataW.trod_int Tryd.underlying22 t20
  obtain rfl := (List.cons.inj e20).1
  obtain ⟨bg2, e21, rfl, wbg2⟩ := DataW.trod_int Tryd.underlying22 t21
  obtain rfl := (List.cons.inj e21).1
  obtain ⟨adx2, e22, rfl, wad2⟩ := DataW.trod_int Tryd.underlying5 t22
  obtain rfl := (List.cons.inj e22).1
  obtain ⟨ad2, rfl⟩ : ∃ b : B8, adx2 = bI b := by
    have bw := bounds_u8 wad2
    obtain ⟨b, hb⟩ := bI_of adx2 (by omega) (by omega)
    exact ⟨b, hb.symm⟩
  obtain ⟨drx2, e23, rfl, wdr2⟩ := DataW.trod_int Tryd.underlying5 t23
  obtain rfl := (List.cons.inj e23).1
  obtain ⟨dr2, rfl⟩ : ∃ b : B8, drx2 = bI b := by
    have bw := bounds_u8 wdr2
    obtain ⟨b, hb⟩ := bI_of drx2 (by omega) (by omega)
    exact ⟨b, hb.symm⟩
  have k3 := h3
  have lt3 : ∀ x ∈ p3, x.block < W.heap.size := by obtain ⟨m, hm⟩ := k3; exact DataW.trod_lt m _ _ _ hm
  obtain ⟨c30, c31, c32, c33, y30, y31, y32, y33, m3, rfl, rfl, rfl, t30, t31, t32, t33⟩ := Joins.open_agg4 Tryd.underlying36 (by kernel_rfl) (by kernel_rfl) (hval 3 36 v3 rfl rfl) h3
  obtain ⟨fg3, e30, rfl, wfg3⟩ := DataW.trod_int Tryd.underlying22 t30
  obtain rfl := (List.cons.inj e30).1
  obtain ⟨bg3, e31, rfl, wbg3⟩ := DataW.trod_int Tryd.underlying22 t31
  obtain rfl := (List.cons.inj e31).1
  obtain ⟨adx3, e32, rfl, wad3⟩ := DataW.trod_int Tryd.underlying5 t32
  obtain rfl := (List.cons.inj e32).1
  obtain ⟨ad3, rfl⟩ : ∃ b : B8, adx3 = bI b := by
    have bw := bounds_u8 wad3
    obtain ⟨b, hb⟩ := bI_of adx3 (by omega) (by omega)
    exact ⟨b, hb.symm⟩
  obtain ⟨drx3, e33, rfl, wdr3⟩ := DataW.trod_int Tryd.underlying5 t33
  obtain rfl := (List.cons.inj e33).1
  obtain ⟨dr3, rfl⟩ : ∃ b : B8, drx3 = bI b := by
    have bw := bounds_u8 wdr3
    obtain ⟨b, hb⟩ := bI_of drx3 (by omega) (by omega)
    exact ⟨b, hb.symm⟩
  clear hA0 hval0
  simp only [List.append_nil] at hW'
  refine (styleThen_walk ⟨fg0, bg0, at0⟩ ⟨fg1, bg1, ad1, dr1⟩ ⟨fg2, bg2, ad2, dr2⟩ ⟨fg3, bg3, ad3, dr3⟩ W (alive_all hL)).mono fun e W' ⟨he, bel⟩ => ?_
  subst he
  exact ⟨_, rfl, _, _, _, [], _, [], hW', trodAll_mk1 (shut_bool Tryd.underlying4 _), (trodAll_cons_mk (Below.trod laidOut (by kernel_rfl) (of_decide_eq_true (by kernel_rfl)) k0 bel lt0) (trodAll_cons_mk (Below.trod laidOut (by kernel_rfl) (of_decide_eq_true (by kernel_rfl)) k1 bel lt1) (trodAll_cons_mk (Below.trod laidOut (by kernel_rfl) (of_decide_eq_true (by kernel_rfl)) k2 bel lt2) (trodAll_cons_mk (Below.trod laidOut (by kernel_rfl) (of_decide_eq_true (by kernel_rfl)) k3 bel lt3) trodAll_mk0)))), rfl, bel.frame _, fun h => by cases h⟩

theorem over : Rows.styleThenRow.holds Tryd.pinned (OpenSpec.ofChange Rows.styleThenSpec) :=
  OpenClaim.holds_of_wide 8 Tryd.f8 rfl rfl rfl rfl rfl rfl rfl ⟨rfl, rfl, rfl, rfl, rfl⟩ rfl rfl rfl rfl rfl (by kernel_rfl) Tryd.func8 (by kernel_rfl)
    (of_decide_eq_true (by kernel_rfl)) (by unfold Func.isWrapper; first | (rw [if_pos (by decide +kernel)]; kernel_rfl) | (rw [if_neg (by decide +kernel)]; exact ⟨rfl, rfl⟩))
    (fun os started H enc _ => lifted os started H enc)

theorem plain (f : FuncId) (fn : Func) (hf : Tryd.pinned.checked.prog.funcNamed "fresco/frescolaw06.StyleThen" = some f) (hfn : Tryd.pinned.checked.prog.funcs[f]? = some fn) :
    true = Tryd.pinned.checked.prog.looks [] ∧ ∀ (j : Nat) t, fn.params[j]? = some t → Tryd.pinned.checked.prog.wantsStandIn t = false := by
  obtain rfl : f = 8 := Option.some.inj ((show Tryd.prog.funcNamed "fresco/frescolaw06.StyleThen" = some 8 by kernel_rfl).symm.trans hf) |>.symm
  obtain rfl : fn = Tryd.f8 := (Option.some.inj (Tryd.func8.symm.trans hfn)).symm
  refine ⟨by kernel_rfl, fun j t ht => ?_⟩
  rw [Tryd.params8] at ht
  have hm : t ∈ [24, 36, 36, 36] := by simpa using Array.mem_of_getElem? ht
  have hall : ([24, 36, 36, 36].all fun u => !Tryd.prog.wantsStandIn u) = true := by kernel_rfl
  exact (show Tryd.prog.wantsStandIn t = false by simpa using List.all_eq_true.1 hall t hm)

theorem proved : Rows.StyleThenCardSaid :=
  Claim7.holds_tied_plain_at .later [] _ _ _ _ over (fun _ h => by cases h) (by kernel_rfl) (fun _ h => by cases h) styleThen_row_tie rfl ⟨rfl, rfl⟩ (by kernel_rfl) rfl plain (by kernel_rfl)
#print axioms proved
end Go.Proofs.YthcdcbibbfdjmaaDoor.styleThen
