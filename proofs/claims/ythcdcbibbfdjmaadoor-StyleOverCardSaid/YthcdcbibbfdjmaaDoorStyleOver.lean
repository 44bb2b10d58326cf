/- StyleOver (fresco/frescolaw06): the statement, out of the walk. The frame is the guide's. -/
import Derived.Test.YthcdcbibbfdjmaaDoorStyOl
import Derived.Test.YthcdcbibbfdjmaaDoorStyOz
import Derived.Test.YthcdcbibbfdjmaaDoorStyAv
import Derived.Test.YthcdcbibbfdjmaaDoorRows
import Derived.Test.YthcdcbibbfdjmaaDoorCards
import Derived.Test.YthcdcbibbfdjmaaDoorTie
import Derived.SevenTiedAt
import Derived.LaidMore
import Derived.Stop.Joined
import Derived.SizedLaws
import Derived.ProofKit
import Derived.OpenShut
import Derived.ShutString
import Derived.Laws.Cover2
import Derived.ChangeOld
import Derived.Below
import Derived.Lib.SmallJoins
namespace Go.Proofs.YthcdcbibbfdjmaaDoor.styleOver
open Go.ChangeShapes Go.WideShapes Go.ChangeAt Go.RowKit
open Go.ChangeMaps (open_string shut_string)
set_option linter.unusedVariables false

theorem laidOut : laidOutB Tryd.prog = true := by kernel_rfl
theorem own : ownKnob Tryd.prog.godebug = none := by kernel_rfl

/-- The door's own heap meets the condition. -/
theorem door_met (os : Os) (args : Array Value) : laidMetH Tryd.prog Rows.styleOverRow.laid ((World.doorLaid Tryd.prog 4000 os).forCall (fun _ _ => 0) ⟨#[], args, []⟩).memory :=
  laidMetH_of_parts3 (fuel := 8) (laidMet_of_run' 8 (by kernel_rfl) (by kernel_rfl)) (by kernel_rfl) (by kernel_rfl)

set_option maxRecDepth 100000 in
theorem lifted (os : Os) (started : os.Started) (H : Type) (enc : TypeId × Value → H) :
    ReturnsInHanded {} Tryd.checked os 7 .any (fun w args => (Rows.styleOverSpec.pre enc Tryd.prog Tryd.f7 [] false w args ∧ laidMetH Tryd.prog Rows.styleOverRow.laid w) ∧ sizedMet enc Tryd.prog Tryd.f7 (OpenSpec.ofChange Rows.styleOverSpec) false w args)
      (Rows.styleOverSpec.post enc Tryd.prog Tryd.f7 false true false false) := by
  refine returnsInHanded_of_change_and (C := Tryd.checked) (X := fun w _ => laidMetH Tryd.prog Rows.styleOverRow.laid w) (fun _ _ _ hh h => h.of_heap hh) own started (by kernel_rfl) Tryd.func7
    (ChangeSpec.witness_shaped (enc := enc) (C := Tryd.checked) (os := os) (X := fun w _ => laidMetH Tryd.prog Rows.styleOverRow.laid w) false (World.doorLaid Tryd.prog 4000 os) #[.agg #[.int .i32 0, .int .i32 0, .int .u8 0], .slice none 0 0] 8 rfl (World.shaped_of_RefB (by kernel_rfl) (by kernel_rfl)) (by kernel_rfl) (by kernel_rfl) (by kernel_rfl) (door_met os _)) ?_
  intro W base args ds gs before hval0 hW hcnd hsz hL _
  have hval : ∀ (j : Nat) t v, Tryd.f7.params[j]? = some t → args[j]? = some v → Value.okWide Tryd.prog W .any base t v := hval0
  have hW' := hW
  obtain ⟨p, q, hA0, hV, rfl, hfz, hnd⟩ := hW
  have hA : DataW.TrodAll enc Tryd.prog W 0 (fun _ => true) true Tryd.f7.params.toList args.toList ds p := hA0
  rw [Tryd.params7] at hA hval
  obtain ⟨v0, vs0, d0, ds0, p0, q0, hargs, rfl, rfl, h0, r0⟩ := trodAll_cons hA
  obtain ⟨v1, vs1, d1, ds1, p1, q1, rfl, rfl, rfl, h1, r1⟩ := trodAll_cons r0
  obtain ⟨rfl, rfl, rfl⟩ := trodAll_nil r1
  obtain rfl : args = #[v0, v1] := by cases args; simp_all
  obtain ⟨rfl, rfl⟩ := trodVars_none hV
  have k0 := h0
  have lt0 : ∀ x ∈ p0, x.block < W.heap.size := by obtain ⟨m, hm⟩ := k0; exact DataW.trod_lt m _ _ _ hm
  obtain ⟨c00, c01, c02, y00, y01, y02, m0, rfl, rfl, rfl, t00, t01, t02⟩ := Joins.open_agg3 Tryd.underlying24 (by kernel_rfl) (by kernel_rfl) (hval 0 24 v0 rfl rfl) h0
  obtain ⟨fg0, e00, rfl, wfg0⟩ := DataW.trod_int Tryd.underlying22 t00
  obtain rfl := (List.cons.inj e00).1
  obtain ⟨bg0, e01, rfl, wbg0⟩ := DataW.trod_int Tryd.underlying22 t01
  obtain rfl := (List.cons.inj e01).1
  obtain ⟨atx0, e02, rfl, wat0⟩ := DataW.trod_int Tryd.underlying5 t02
  obtain rfl := (List.cons.inj e02).1
  obtain ⟨at0, rfl⟩ : ∃ b : B8, atx0 = bI b := by
    have bw := bounds_u8 wat0
    obtain ⟨b, hb⟩ := bI_of atx0 (by omega) (by omega)
    exact ⟨b, hb.symm⟩
  obtain ⟨a1, l1, c1, rfl⟩ := okWide_slice Tryd.underlying43 (hval 1 43 v1 rfl rfl)
  have k1 := h1
  have lt1 : ∀ x ∈ p1, x.block < W.heap.size := by obtain ⟨m, hm⟩ := k1; exact DataW.trod_lt m _ _ _ hm
  obtain ⟨z1, e1, n1, s1, wz1, zl1, zz1⟩ : ∃ ps : List Pat, l1 = ps.length ∧ (a1 = none → c1 = 0) ∧ SeesP W W.heap.size a1 ps ∧ (∀ p ∈ ps, col32 p.fg ∧ col32 p.bg) ∧ ps.length ≤ c1 ∧ c1 * 12 ≤ 140737488351232 := by
    obtain ⟨fuel, hf⟩ := h1
    rcases open_pats hf (fun _ => rfl) with hcs | ⟨a, len, cap, ps, es, rs, hcs, hl, hd, hz, hp, hcell, hcol⟩
    · simp [Value.cells] at hcs
      obtain ⟨rfl, rfl, rfl⟩ := hcs
      exact ⟨[], rfl, fun _ => rfl, fun h => absurd rfl h, (fun _ h => by cases h), by decide, by decide⟩
    · simp [Value.cells] at hcs
      obtain ⟨rfl, rfl, rfl⟩ := hcs
      have z := sized_slice hsz (j := 1) (elems := es) (spare := rs) (by rw [Tryd.params7]; rfl) (by simp; exact hd) Tryd.underlying43
      refine ⟨ps, hp.symm, (fun e => by cases e), ?_, hcol, by omega, ?_⟩
      · intro ne
        have pos : 0 < ps.length := List.length_pos_iff.2 ne
        have q := block_lt_of_cell (hcell 0 ps[0] (List.getElem?_eq_getElem pos) 0 _ rfl)
        rw [add_blk] at q
        exact ⟨_, rfl, q, hcell⟩
      · have b : Tryd.prog.bytesOf 36 = 12 := by kernel_rfl
        have b' : Tryd.checked.prog.bytesOf 36 = 12 := b
        rw [b'] at z
        simp [reachBytes] at z
        omega
  subst e1
  clear hA0 hval0
  simp only [List.append_nil] at hW'
  refine (styleOver_walk ⟨fg0, bg0, at0⟩ a1 c1 z1 n1 (bounds_i32 wfg0) (bounds_i32 wbg0) wz1 (by omega) zl1 W s1 (alive_all hL)).mono fun e W' ⟨he, bel⟩ => ?_
  subst he
  exact ⟨_, rfl, _, _, _, [], _, [], hW', trodAll_mk1 (shut_bool Tryd.underlying4 _), (trodAll_cons_mk (Below.trod laidOut (by kernel_rfl) (of_decide_eq_true (by kernel_rfl)) k0 bel lt0) (trodAll_cons_mk (Below.trod laidOut (by kernel_rfl) (of_decide_eq_true (by kernel_rfl)) k1 bel lt1) trodAll_mk0)), rfl, bel.frame _, fun h => by cases h⟩

theorem over : Rows.styleOverRow.holds Tryd.pinned (OpenSpec.ofChange Rows.styleOverSpec) :=
  OpenClaim.holds_of_wide 7 Tryd.f7 rfl rfl rfl rfl rfl rfl rfl ⟨rfl, rfl, rfl, rfl, rfl⟩ rfl rfl rfl rfl rfl (by kernel_rfl) Tryd.func7 (by kernel_rfl)
    (of_decide_eq_true (by kernel_rfl)) (by unfold Func.isWrapper; first | (rw [if_pos (by decide +kernel)]; kernel_rfl) | (rw [if_neg (by decide +kernel)]; exact ⟨rfl, rfl⟩))
    (fun os started H enc _ => lifted os started H enc)

theorem plain (f : FuncId) (fn : Func) (hf : Tryd.pinned.checked.prog.funcNamed "fresco/frescolaw06.StyleOver" = some f) (hfn : Tryd.pinned.checked.prog.funcs[f]? = some fn) :
    true = Tryd.pinned.checked.prog.looks [] ∧ ∀ (j : Nat) t, fn.params[j]? = some t → Tryd.pinned.checked.prog.wantsStandIn t = false := by
  obtain rfl : f = 7 := Option.some.inj ((show Tryd.prog.funcNamed "fresco/frescolaw06.StyleOver" = some 7 by kernel_rfl).symm.trans hf) |>.symm
  obtain rfl : fn = Tryd.f7 := (Option.some.inj (Tryd.func7.symm.trans hfn)).symm
  refine ⟨by kernel_rfl, fun j t ht => ?_⟩
  rw [Tryd.params7] at ht
  have hm : t ∈ [24, 43] := by simpa using Array.mem_of_getElem? ht
  have hall : ([24, 43].all fun u => !Tryd.prog.wantsStandIn u) = true := by kernel_rfl
  exact (show Tryd.prog.wantsStandIn t = false by simpa using List.all_eq_true.1 hall t hm)

theorem proved : Rows.StyleOverCardSaid :=
  Claim7.holds_tied_plain_at .later [] _ _ _ _ over (fun _ h => by cases h) (by kernel_rfl) (fun _ h => by cases h) styleOver_row_tie rfl ⟨rfl, rfl⟩ (by kernel_rfl) rfl plain (by kernel_rfl)
#print axioms proved
end Go.Proofs.YthcdcbibbfdjmaaDoor.styleOver
