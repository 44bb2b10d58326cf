/- VtClones (fresco/frescolaw26): the statement, out of the walk. The frame is the guide's. -/
import Derived.Test.YtkllilehdpdbdaaGreatDoorVzE
import Derived.Test.YtkllilehdpdbdaaGreatDoorVyK
import Derived.Test.YtkllilehdpdbdaaGreatDoorRows
import Derived.Test.YtkllilehdpdbdaaGreatDoorCards
import Derived.Test.YtkllilehdpdbdaaGreatDoorTie
import Derived.SevenTiedAt
import Derived.LaidMore
import Derived.Stop.Joined
import Derived.SizedLaws
import Derived.ProofKit
import Derived.OpenShut
import Derived.ShutString
import Derived.Laws.Cover2
import Derived.ChangeOld
import Derived.Below
import Derived.Lib.SmallJoins
namespace Go.Proofs.YtkllilehdpdbdaaGreatDoor.vtClones
open Go.ChangeShapes Go.WideShapes Go.ChangeAt Go.RowKit
open Go.ChangeMaps (open_string shut_string)
set_option linter.unusedVariables false

theorem laidOut : laidOutB Tryz.prog = true := by kernel_rfl
theorem own : ownKnob Tryz.prog.godebug = none := by kernel_rfl

/-- The door's own heap meets the condition. -/
theorem door_met (os : Os) (args : Array Value) : laidMetH Tryz.prog Rows.vtClonesRow.laid ((World.doorLaid Tryz.prog 4000 os).forCall (fun _ _ => 0) ⟨#[], args, []⟩).memory :=
  laidMetH_of_parts3 (fuel := 8) (laidMet_of_run' 8 (by kernel_rfl) (by kernel_rfl)) (by kernel_rfl) (by kernel_rfl)

set_option maxRecDepth 100000 in
theorem lifted (os : Os) (started : os.Started) (H : Type) (enc : TypeId × Value → H) :
    ReturnsInHanded {} Tryz.checked os 8 .any (fun w args => (Rows.vtClonesSpec.pre enc Tryz.prog Tryz.f8 [] false w args ∧ laidMetH Tryz.prog Rows.vtClonesRow.laid w) ∧ sizedMet enc Tryz.prog Tryz.f8 (OpenSpec.ofChange Rows.vtClonesSpec) false w args)
      (Rows.vtClonesSpec.post enc Tryz.prog Tryz.f8 false true false false) := by
  refine returnsInHanded_of_change_and (C := Tryz.checked) (X := fun w _ => laidMetH Tryz.prog Rows.vtClonesRow.laid w) (fun _ _ _ hh h => h.of_heap hh) own started (by kernel_rfl) Tryz.func8
    (ChangeSpec.witness_shaped (enc := enc) (C := Tryz.checked) (os := os) (X := fun w _ => laidMetH Tryz.prog Rows.vtClonesRow.laid w) false (World.doorLaid Tryz.prog 4000 os) #[.int .i64 0, .int .i64 0, .slice none 0 0, .slice none 0 0, .slice none 0 0] 8 rfl (World.shaped_of_RefB (by kernel_rfl) (by kernel_rfl)) (by kernel_rfl) (by kernel_rfl) (by kernel_rfl) (door_met os _)) ?_
  intro W base args ds gs before hval0 hW hcnd hsz hL _
  have hval : ∀ (j : Nat) t v, Tryz.f8.params[j]? = some t → args[j]? = some v → Value.okWide Tryz.prog W .any base t v := hval0
  have hW' := hW
  obtain ⟨p, q, hA0, hV, rfl, hfz, hnd⟩ := hW
  have hA : DataW.TrodAll enc Tryz.prog W 0 (fun _ => true) true Tryz.f8.params.toList args.toList ds p := hA0
  rw [Tryz.params8] at hA hval
  obtain ⟨v0, vs0, d0, ds0, p0, q0, hargs, rfl, rfl, h0, r0⟩ := trodAll_cons hA
  obtain ⟨v1, vs1, d1, ds1, p1, q1, rfl, rfl, rfl, h1, r1⟩ := trodAll_cons r0
  obtain ⟨v2, vs2, d2, ds2, p2, q2, rfl, rfl, rfl, h2, r2⟩ := trodAll_cons r1
  obtain ⟨v3, vs3, d3, ds3, p3, q3, rfl, rfl, rfl, h3, r3⟩ := trodAll_cons r2
  obtain ⟨v4, vs4, d4, ds4, p4, q4, rfl, rfl, rfl, h4, r4⟩ := trodAll_cons r3
  obtain ⟨rfl, rfl, rfl⟩ := trodAll_nil r4
  obtain rfl : args = #[v0, v1, v2, v3, v4] := by cases args; simp_all
  obtain ⟨rfl, rfl⟩ := trodVars_none hV
  obtain ⟨a0, rfl, rfl, rfl, w0⟩ := open_int Tryz.underlying3 (hval 0 3 v0 rfl rfl) h0
  obtain ⟨a1, rfl, rfl, rfl, w1⟩ := open_int Tryz.underlying3 (hval 1 3 v1 rfl rfl) h1
  obtain ⟨a2, l2, c2, rfl⟩ := okWide_slice Tryz.underlying29 (hval 2 29 v2 rfl rfl)
  have k2 := h2
  have lt2 : ∀ x ∈ p2, x.block < W.heap.size := by obtain ⟨m, hm⟩ := k2; exact DataW.trod_lt m _ _ _ hm
  obtain ⟨z2, e2, n2, s2, wz2, zl2, zz2⟩ : ∃ zs : List Int, l2 = zs.length ∧ (a2 = none → c2 = 0) ∧ Sees W W.heap.size a2 (zs.map (.int .u8)) ∧ (∀ n ∈ zs, (Lit.int .u8 n).wf = true) ∧ zs.length ≤ c2 ∧ c2 * 1 ≤ 140737488351232 := by
    obtain ⟨fuel, hf⟩ := h2
    rcases open_ints Tryz.underlying29 Tryz.underlying5 (by kernel_rfl) hf with ⟨hcs, _⟩ | ⟨x, l, c, zs, hcs, _, hl, hm, hz, hd, hcell, hwz⟩
    · simp [Value.cells] at hcs
      obtain ⟨rfl, rfl, rfl⟩ := hcs
      exact ⟨[], rfl, fun _ => rfl, Sees.nil _ _ _, (fun _ h => by cases h), by decide, by decide⟩
    · simp [Value.cells] at hcs
      obtain ⟨rfl, rfl, rfl⟩ := hcs
      have hz' : zs.length = c2 := by simpa using hz
      have z := sized_slice hsz (j := 2) (elems := lits .u8 (zs.take l2)) (spare := lits .u8 (zs.drop l2)) (by rw [Tryz.params8]; rfl) (by simp at hd ⊢; exact hd.1) Tryz.underlying29
      refine ⟨zs.take l2, by rw [List.length_take]; omega, (fun e => by cases e), ?_, fun n hn => hwz n (List.mem_of_mem_take hn), by rw [List.length_take]; omega, ?_⟩
      · intro ne
        have pos : 0 < zs.length := by
          rcases Nat.eq_zero_or_pos zs.length with z | z
          · exact absurd (by rw [List.eq_nil_of_length_eq_zero z]; simp) ne
          · exact z
        refine ⟨x, rfl, block_lt_of_cell (a := x.add 0) (hcell 0 pos) |> fun h => by rwa [add_blk] at h, fun j u hu => ?_⟩
        rw [List.getElem?_map] at hu
        obtain ⟨y, hy, rfl⟩ := Option.map_eq_some_iff.1 hu
        have hj : j < zs.length := by have := (List.getElem?_eq_some_iff.1 hy).1; rw [List.length_take] at this; omega
        rw [hcell j hj, List.getD_eq_getElem?_getD]
        have : zs[j]? = some y := by rw [List.getElem?_take] at hy; split at hy; exact hy; cases hy
        rw [this]; rfl
      · have b : Tryz.prog.bytesOf 5 = 1 := by kernel_rfl
        have b' : Tryz.checked.prog.bytesOf 5 = 1 := b
        rw [b'] at z
        simp [lits, reachBytes] at z
        omega
  subst e2
  obtain ⟨a3, l3, c3, rfl⟩ := okWide_slice Tryz.underlying29 (hval 3 29 v3 rfl rfl)
  have k3 := h3
  have lt3 : ∀ x ∈ p3, x.block < W.heap.size := by obtain ⟨m, hm⟩ := k3; exact DataW.trod_lt m _ _ _ hm
  obtain ⟨z3, e3, n3, s3, wz3, zl3, zz3⟩ : ∃ zs : List Int, l3 = zs.length ∧ (a3 = none → c3 = 0) ∧ Sees W W.heap.size a3 (zs.map (.int .u8)) ∧ (∀ n ∈ zs, (Lit.int .u8 n).wf = true) ∧ zs.length ≤ c3 ∧ c3 * 1 ≤ 140737488351232 := by
    obtain ⟨fuel, hf⟩ := h3
    rcases open_ints Tryz.underlying29 Tryz.underlying5 (by kernel_rfl) hf with ⟨hcs, _⟩ | ⟨x, l, c, zs, hcs, _, hl, hm, hz, hd, hcell, hwz⟩
    · simp [Value.cells] at hcs
      obtain ⟨rfl, rfl, rfl⟩ := hcs
      exact ⟨[], rfl, fun _ => rfl, Sees.nil _ _ _, (fun _ h => by cases h), by decide, by decide⟩
    · simp [Value.cells] at hcs
      obtain ⟨rfl, rfl, rfl⟩ := hcs
      have hz' : zs.length = c3 := by simpa using hz
      have z := sized_slice hsz (j := 3) (elems := lits .u8 (zs.take l3)) (spare := lits .u8 (zs.drop l3)) (by rw [Tryz.params8]; rfl) (by simp at hd ⊢; exact hd.1) Tryz.underlying29
      refine ⟨zs.take l3, by rw [List.length_take]; omega, (fun e => by cases e), ?_, fun n hn => hwz n (List.mem_of_mem_take hn), by rw [List.length_take]; omega, ?_⟩
      · intro ne
        have pos : 0 < zs.length := by
          rcases Nat.eq_zero_or_pos zs.length with z | z
          · exact absurd (by rw [List.eq_nil_of_length_eq_zero z]; simp) ne
          · exact z
        refine ⟨x, rfl, block_lt_of_cell (a := x.add 0) (hcell 0 pos) |> fun h => by rwa [add_blk] at h, fun j u hu => ?_⟩
        rw [List.getElem?_map] at hu
        obtain ⟨y, hy, rfl⟩ := Option.map_eq_some_iff.1 hu
        have hj : j < zs.length := by have := (List.getElem?_eq_some_iff.1 hy).1; rw [List.length_take] at this; omega
        rw [hcell j hj, List.getD_eq_getElem?_getD]
        have : zs[j]? = some y := by rw [List.getElem?_take] at hy; split at hy; exact hy; cases hy
        rw [this]; rfl
      · have b : Tryz.prog.bytesOf 5 = 1 := by kernel_rfl
        have b' : Tryz.checked.prog.bytesOf 5 = 1 := b
        rw [b'] at z
        simp [lits, reachBytes] at z
        omega
  subst e3
  obtain ⟨a4, l4, c4, rfl⟩ := okWide_slice Tryz.underlying29 (hval 4 29 v4 rfl rfl)
  have k4 := h4
  have lt4 : ∀ x ∈ p4, x.block < W.heap.size := by obtain ⟨m, hm⟩ := k4; exact DataW.trod_lt m _ _ _ hm
  obtain ⟨z4, e4, n4, s4, wz4, zl4, zz4⟩ : ∃ zs : List Int, l4 = zs.length ∧ (a4 = none → c4 = 0) ∧ Sees W W.heap.size a4 (zs.map (.int .u8)) ∧ (∀ n ∈ zs, (Lit.int .u8 n).wf = true) ∧ zs.length ≤ c4 ∧ c4 * 1 ≤ 140737488351232 := by
    obtain ⟨fuel, hf⟩ := h4
    rcases open_ints Tryz.underlying29 Tryz.underlying5 (by kernel_rfl) hf with ⟨hcs, _⟩ | ⟨x, l, c, zs, hcs, _, hl, hm, hz, hd, hcell, hwz⟩
    · simp [Value.cells] at hcs
      obtain ⟨rfl, rfl, rfl⟩ := hcs
      exact ⟨[], rfl, fun _ => rfl, Sees.nil _ _ _, (fun _ h => by cases h), by decide, by decide⟩
    · simp [Value.cells] at hcs
      obtain ⟨rfl, rfl, rfl⟩ := hcs
      have hz' : zs.length = c4 := by simpa using hz
      have z := sized_slice hsz (j := 4) (elems := lits .u8 (zs.take l4)) (spare := lits .u8 (zs.drop l4)) (by rw [Tryz.params8]; rfl) (by simp at hd ⊢; exact hd.1) Tryz.underlying29
      refine ⟨zs.take l4, by rw [List.length_take]; omega, (fun e => by cases e), ?_, fun n hn => hwz n (List.mem_of_mem_take hn), by rw [List.length_take]; omega, ?_⟩
      · intro ne
        have pos : 0 < zs.length := by
          rcases Nat.eq_zero_or_pos zs.length with z | z
          · exact absurd (by rw [List.eq_nil_of_length_eq_zero z]; simp) ne
          · exact z
        refine ⟨x, rfl, block_lt_of_cell (a := x.add 0) (hcell 0 pos) |> fun h => by rwa [add_blk] at h, fun j u hu => ?_⟩
        rw [List.getElem?_map] at hu
        obtain ⟨y, hy, rfl⟩ := Option.map_eq_some_iff.1 hu
        have hj : j < zs.length := by have := (List.getElem?_eq_some_iff.1 hy).1; rw [List.length_take] at this; omega
        rw [hcell j hj, List.getD_eq_getElem?_getD]
        have : zs[j]? = some y := by rw [List.getElem?_take] at hy; split at hy; exact hy; cases hy
        rw [this]; rfl
      · have b : Tryz.prog.bytesOf 5 = 1 := by kernel_rfl
        have b' : Tryz.checked.prog.bytesOf 5 = 1 := b
        rw [b'] at z
        simp [lits, reachBytes] at z
        omega
  subst e4
  clear hA0 hval0
  simp only [List.append_nil] at hW'
  refine (vtClones_walk a0 a1 (bounds_i64 w0) (bounds_i64 w1) a2 c2 z2 a3 c3 z3 a4 c4 z4 W (env_v hL) ⟨zl2, fun b m => by have := bounds_u8 (wz2 b m); omega, s2⟩ ⟨zl3, fun b m => by have := bounds_u8 (wz3 b m); omega, s3⟩ ⟨zl4, fun b m => by have := bounds_u8 (wz4 b m); omega, s4⟩).mono fun e W' ⟨he, bel⟩ => ?_
  subst he
  exact ⟨_, rfl, _, _, _, [], _, [], hW', trodAll_mk1 (shut_bool Tryz.underlying4 _), (trodAll_cons_mk (shut_int Tryz.underlying3 w0) (trodAll_cons_mk (shut_int Tryz.underlying3 w1) (trodAll_cons_mk (Below.trod laidOut (by kernel_rfl) (of_decide_eq_true (by kernel_rfl)) k2 bel lt2) (trodAll_cons_mk (Below.trod laidOut (by kernel_rfl) (of_decide_eq_true (by kernel_rfl)) k3 bel lt3) (trodAll_cons_mk (Below.trod laidOut (by kernel_rfl) (of_decide_eq_true (by kernel_rfl)) k4 bel lt4) trodAll_mk0))))), rfl, bel.frame _, fun h => by cases h⟩

theorem over : Rows.vtClonesRow.holds Tryz.pinned (OpenSpec.ofChange Rows.vtClonesSpec) :=
  OpenClaim.holds_of_wide 8 Tryz.f8 rfl rfl rfl rfl rfl rfl rfl ⟨rfl, rfl, rfl, rfl, rfl⟩ rfl rfl rfl rfl rfl (by kernel_rfl) Tryz.func8 (by kernel_rfl)
    (of_decide_eq_true (by kernel_rfl)) (by unfold Func.isWrapper; first | (rw [if_pos (by decide +kernel)]; kernel_rfl) | (rw [if_neg (by decide +kernel)]; exact ⟨rfl, rfl⟩))
    (fun os started H enc _ => lifted os started H enc)

theorem plain (f : FuncId) (fn : Func) (hf : Tryz.pinned.checked.prog.funcNamed "fresco/frescolaw26.VtClones" = some f) (hfn : Tryz.pinned.checked.prog.funcs[f]? = some fn) :
    false = Tryz.pinned.checked.prog.looks [] ∧ ∀ (j : Nat) t, fn.params[j]? = some t → Tryz.pinned.checked.prog.wantsStandIn t = false := by
  obtain rfl : f = 8 := Option.some.inj ((show Tryz.prog.funcNamed "fresco/frescolaw26.VtClones" = some 8 by kernel_rfl).symm.trans hf) |>.symm
  obtain rfl : fn = Tryz.f8 := (Option.some.inj (Tryz.func8.symm.trans hfn)).symm
  refine ⟨by kernel_rfl, fun j t ht => ?_⟩
  rw [Tryz.params8] at ht
  have hm : t ∈ [3, 3, 29, 29, 29] := by simpa using Array.mem_of_getElem? ht
  have hall : ([3, 3, 29, 29, 29].all fun u => !Tryz.prog.wantsStandIn u) = true := by kernel_rfl
  exact (show Tryz.prog.wantsStandIn t = false by simpa using List.all_eq_true.1 hall t hm)

theorem proved : Rows.VtClonesCardSaid :=
  Claim7.holds_tied_plain_at .later [] _ _ _ _ over (fun _ h => by cases h) (by kernel_rfl) (fun _ h => by cases h) vtClones_row_tie rfl ⟨rfl, rfl⟩ (by kernel_rfl) rfl plain (by kernel_rfl)
#print axioms proved
end Go.Proofs.YtkllilehdpdbdaaGreatDoor.vtClones
