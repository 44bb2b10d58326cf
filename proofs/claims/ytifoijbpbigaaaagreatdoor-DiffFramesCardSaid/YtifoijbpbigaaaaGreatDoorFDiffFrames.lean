/- DiffFrames (fresco/frescolaw25): the statement, out of the walk. The frame is the guide's. -/
import Derived.Test.YtifoijbpbigaaaaGreatDoorFRcM
import Derived.Test.YtifoijbpbigaaaaGreatDoorFRcN
import Derived.Test.YtifoijbpbigaaaaGreatDoorRows
import Derived.Test.YtifoijbpbigaaaaGreatDoorCards
import Derived.Test.YtifoijbpbigaaaaGreatDoorTie
import Derived.SevenTiedAt
import Derived.LaidMore
import Derived.Stop.Joined
import Derived.SizedLaws
import Derived.ProofKit
import Derived.OpenShut
import Derived.ShutString
import Derived.Laws.Cover2
import Derived.ChangeOld
import Derived.Below
import Derived.Lib.SmallJoins
namespace Go.Proofs.YtifoijbpbigaaaaGreatDoor.diffFrames
open Go.ChangeShapes Go.WideShapes Go.ChangeAt Go.RowKit
open Go.ChangeMaps (open_string shut_string)
set_option linter.unusedVariables false
theorem laidOut : laidOutB Tryz.prog = true := by kernel_rfl
theorem own : ownKnob Tryz.prog.godebug = none := by kernel_rfl
theorem door_met (os : Os) (args : Array Value) : laidMetH Tryz.prog Rows.diffFramesRow.laid ((World.doorLaid Tryz.prog 4000 os).forCall (fun _ _ => 0) ⟨#[], args, []⟩).memory :=
 laidMetH_of_parts3 (fuel := 8) (laidMet_of_run' 8 (by kernel_rfl) (by kernel_rfl)) (by kernel_rfl) (by kernel_rfl)
set_option maxRecDepth 100000 in
theorem lifted (os : Os) (started : os.Started) (H : Type) (enc : TypeId × Value -> H) :
  ReturnsInHanded {} Tryz.checked os 5 .any (fun w args => (Rows.diffFramesSpec.pre enc Tryz.prog Tryz.f5 [] false w args /\ laidMetH Tryz.prog Rows.diffFramesRow.laid w) /\ sizedMet enc Tryz.prog Tryz.f5 (OpenSpec.ofChange Rows.diffFramesSpec) false w args)
   (Rows.diffFramesSpec.post enc Tryz.prog Tryz.f5 false true false false) := by
 refine returnsInHanded_of_change_and (C := Tryz.checked) (X := fun w _ => laidMetH Tryz.prog Rows.diffFramesRow.laid w) (fun _ _ _ hh h => h.of_heap hh) own started (by kernel_rfl) Tryz.func5
  (ChangeSpec.witness_shaped (enc := enc) (C := Tryz.checked) (os := os) (X := fun w _ => laidMetH Tryz.prog Rows.diffFramesRow.laid w) false (World.doorLaid Tryz.prog 4000 os) #[.agg #[.int .i64 0, .slice none 0 0], .agg #[.int .i64 0, .slice none 0 0]] 8 rfl (World.shaped_of_RefB (by kernel_rfl) (by kernel_rfl)) (by kernel_rfl) (by kernel_rfl) (by kernel_rfl) (door_met os _)) ?_
 intro W base args ds gs before hval0 hW hcnd hsz hL _
 have hval : ∀ (j : Nat) t v, Tryz.f5.params[j]? = some t -> args[j]? = some v -> Value.okWide Tryz.prog W .any base t v := hval0
 have hW' := hW
 obtain ⟨p, q, hA0, hV, rfl, hfz, hnd⟩ := hW
 have hA : DataW.TrodAll enc Tryz.prog W 0 (fun _ => true) true Tryz.f5.params.toList args.toList ds p := hA0
 rw [Tryz.params5] at hA hval
 obtain ⟨v0, vs0, d0, ds0, p0, q0, hargs, rfl, rfl, h0, r0⟩ := trodAll_cons hA
 obtain ⟨v1, vs1, d1, ds1, p1, q1, rfl, rfl, rfl, h1, r1⟩ := trodAll_cons r0
 obtain ⟨rfl, rfl, rfl⟩ := trodAll_nil r1
 obtain rfl : args = #[v0, v1] := by cases args; simp_all
 obtain ⟨rfl, rfl⟩ := trodVars_none hV
 have k0 := h0
 have lt0 : ∀ x ∈ p0, x.block < W.heap.size := by obtain ⟨m, hm⟩ := k0; exact DataW.trod_lt m _ _ _ hm
 obtain ⟨dp0, A0, c0, L0, rfl, n0, sc0, zc0, se0, ok0⟩ : ∃ (dp : Int) (A : Option Addr) (c : Nat) (L : List (Bool × SA)), v0 = .agg #[.int .i64 dp, .slice A L.length c] /\ (A = none -> c = 0) /\ L.length <= c /\ c * 72 <= 140737488351232 /\ Sees W W.heap.size A (L.flatMap actV) /\ ∀ x ∈ L, ScrD W x.2 /\ ∀ y ∈ x.2.s.cells, zh y.st.fg /\ zh y.st.bg := by
  have lw : zP d0 44 := Jh (j := 0) hsz (by rw [Tryz.params5]; rfl) rfl
  obtain ⟨c0, c1, y0, y1, m, rfl, rfl, rfl, t0, t1⟩ := Joins.open_agg2 Tryz.underlying44 (by kernel_rfl) (by kernel_rfl) (hval 0 44 v0 rfl rfl) h0
  obtain ⟨dp, e, _, _⟩ := DataW.trod_int Tryz.underlying3 t0
  obtain rfl := (List.cons.inj e).1
  have l1 : zP y1.1 42 := xY (j := 1) Tryz.underlying44 lw rfl rfl
  obtain ⟨A, c, L, e, q⟩ := JC t1 (fun _ => rfl) l1
  obtain rfl := (List.cons.inj e).1
  exact ⟨dp, A, c, L, rfl, q⟩
 have k1 := h1
 have lt1 : ∀ x ∈ p1, x.block < W.heap.size := by obtain ⟨m, hm⟩ := k1; exact DataW.trod_lt m _ _ _ hm
 obtain ⟨dp1, A1, c1, L1, rfl, n1, sc1, zc1, se1, ok1⟩ : ∃ (dp : Int) (A : Option Addr) (c : Nat) (L : List (Bool × SA)), v1 = .agg #[.int .i64 dp, .slice A L.length c] /\ (A = none -> c = 0) /\ L.length <= c /\ c * 72 <= 140737488351232 /\ Sees W W.heap.size A (L.flatMap actV) /\ ∀ x ∈ L, ScrD W x.2 /\ ∀ y ∈ x.2.s.cells, zh y.st.fg /\ zh y.st.bg := by
  have lw : zP d1 44 := Jh (j := 1) hsz (by rw [Tryz.params5]; rfl) rfl
  obtain ⟨c0, c1, y0, y1, m, rfl, rfl, rfl, t0, t1⟩ := Joins.open_agg2 Tryz.underlying44 (by kernel_rfl) (by kernel_rfl) (hval 1 44 v1 rfl rfl) h1
  obtain ⟨dp, e, _, _⟩ := DataW.trod_int Tryz.underlying3 t0
  obtain rfl := (List.cons.inj e).1
  have l1 : zP y1.1 42 := xY (j := 1) Tryz.underlying44 lw rfl rfl
  obtain ⟨A, c, L, e, q⟩ := JC t1 (fun _ => rfl) l1
  obtain rfl := (List.cons.inj e).1
  exact ⟨dp, A, c, L, rfl, q⟩
 clear hA0 hval0
 simp only [List.append_nil] at hW'
 refine (Vb dp0 dp1 A0 A1 c0 c1 L0 L1 W (env_all hL) sc0 zc0 se0 (fun x hx => (ok0 x hx).1) (fun x hx => (ok0 x hx).2) sc1 zc1 se1 (fun x hx => (ok1 x hx).1) (fun x hx => (ok1 x hx).2)).mono fun e W' ⟨he, bel⟩ => ?_
 subst he
 exact ⟨_, rfl, _, _, _, [], _, [], hW', trodAll_mk1 (shut_bool Tryz.underlying4 _), (trodAll_cons_mk (Below.trod laidOut (by kernel_rfl) (of_decide_eq_true (by kernel_rfl)) k0 bel lt0) (trodAll_cons_mk (Below.trod laidOut (by kernel_rfl) (of_decide_eq_true (by kernel_rfl)) k1 bel lt1) trodAll_mk0)), rfl, bel.frame _, fun h => by cases h⟩
theorem over : Rows.diffFramesRow.holds Tryz.pinned (OpenSpec.ofChange Rows.diffFramesSpec) :=
 OpenClaim.holds_of_wide 5 Tryz.f5 rfl rfl rfl rfl rfl rfl rfl ⟨rfl, rfl, rfl, rfl, rfl⟩ rfl rfl rfl rfl rfl (by kernel_rfl) Tryz.func5 (by kernel_rfl)
  (of_decide_eq_true (by kernel_rfl)) (by unfold Func.isWrapper; first | (rw [if_pos (by decide +kernel)]; kernel_rfl) | (rw [if_neg (by decide +kernel)]; exact ⟨rfl, rfl⟩))
  (fun os started H enc _ => lifted os started H enc)
theorem plain (f : FuncId) (fn : Func) (hf : Tryz.pinned.checked.prog.funcNamed "fresco/frescolaw25.DiffFrames" = some f) (hfn : Tryz.pinned.checked.prog.funcs[f]? = some fn) :
  false = Tryz.pinned.checked.prog.looks [] /\ ∀ (j : Nat) t, fn.params[j]? = some t -> Tryz.pinned.checked.prog.wantsStandIn t = false := by
 obtain rfl : f = 5 := Option.some.inj ((show Tryz.prog.funcNamed "fresco/frescolaw25.DiffFrames" = some 5 by kernel_rfl).symm.trans hf) |>.symm
 obtain rfl : fn = Tryz.f5 := (Option.some.inj (Tryz.func5.symm.trans hfn)).symm
 refine ⟨by kernel_rfl, fun j t ht => ?_⟩
 rw [Tryz.params5] at ht
 have hm : t ∈ [44, 44] := by simpa using Array.mem_of_getElem? ht
 have hall : ([44, 44].all fun u => !Tryz.prog.wantsStandIn u) = true := by kernel_rfl
 exact (show Tryz.prog.wantsStandIn t = false by simpa using List.all_eq_true.1 hall t hm)
theorem proved : Rows.DiffFramesCardSaid :=
 Claim7.holds_tied_plain_at .later [] _ _ _ _ over (fun _ h => by cases h) (by kernel_rfl) (fun _ h => by cases h) diffFrames_row_tie rfl ⟨rfl, rfl⟩ (by kernel_rfl) rfl plain (by kernel_rfl)
#print axioms proved
end Go.Proofs.YtifoijbpbigaaaaGreatDoor.diffFrames
