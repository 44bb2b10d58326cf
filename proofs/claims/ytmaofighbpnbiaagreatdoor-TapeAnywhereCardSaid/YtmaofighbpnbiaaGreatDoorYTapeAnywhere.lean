/- TapeAnywhere (fresco/frescolaw30): the statement, out of the walk. The frame is the guide's. -/
import Derived.Test.YtmaofighbpnbiaaGreatDoorYTqP
import Derived.Test.YtmaofighbpnbiaaGreatDoorYVyK
import Derived.Test.YtmaofighbpnbiaaGreatDoorRows
import Derived.Test.YtmaofighbpnbiaaGreatDoorCards
import Derived.Test.YtmaofighbpnbiaaGreatDoorTie
import Derived.SevenTiedAt
import Derived.LaidMore
import Derived.Stop.Joined
import Derived.SizedLaws
import Derived.ProofKit
import Derived.OpenShut
import Derived.ShutString
import Derived.Laws.Cover2
import Derived.ChangeOld
import Derived.Below
import Derived.Lib.SmallJoins
namespace Go.Proofs.YtmaofighbpnbiaaGreatDoor.tapeAnywhere
open Go.ChangeShapes Go.WideShapes Go.ChangeAt Go.RowKit
open Go.ChangeMaps (open_string shut_string)
set_option linter.unusedVariables false
theorem laidOut : laidOutB Tryz.prog = true := by kernel_rfl
theorem own : ownKnob Tryz.prog.godebug = none := by kernel_rfl
theorem door_met (os : Os) (args : Array Value) : laidMetH Tryz.prog Rows.tapeAnywhereRow.laid ((World.doorLaid Tryz.prog 4000 os).forCall (fun _ _ => 0) ⟨#[], args, []⟩).memory :=
 laidMetH_of_parts3 (fuel := 8) (laidMet_of_run' 8 (by kernel_rfl) (by kernel_rfl)) (by kernel_rfl) (by kernel_rfl)
set_option maxRecDepth 100000 in
theorem lifted (os : Os) (started : os.Started) (H : Type) (enc : TypeId × Value → H) :
  ReturnsInHanded {} Tryz.checked os 6 .any (fun w args => (Rows.tapeAnywhereSpec.pre enc Tryz.prog Tryz.f6 [] false w args ∧ laidMetH Tryz.prog Rows.tapeAnywhereRow.laid w) ∧ sizedMet enc Tryz.prog Tryz.f6 (OpenSpec.ofChange Rows.tapeAnywhereSpec) false w args)
   (Rows.tapeAnywhereSpec.post enc Tryz.prog Tryz.f6 false true false false) := by
 refine returnsInHanded_of_change_and (C := Tryz.checked) (X := fun w _ => laidMetH Tryz.prog Rows.tapeAnywhereRow.laid w) (fun _ _ _ hh h => h.of_heap hh) own started (by kernel_rfl) Tryz.func6
  (ChangeSpec.witness_shaped (enc := enc) (C := Tryz.checked) (os := os) (X := fun w _ => laidMetH Tryz.prog Rows.tapeAnywhereRow.laid w) false (World.doorLaid Tryz.prog 4000 os) #[.agg #[.int .i64 0, .int .i64 0], .slice none 0 0, .int .i64 0, .slice none 0 0] 8 rfl (World.shaped_of_RefB (by kernel_rfl) (by kernel_rfl)) (by kernel_rfl) (by kernel_rfl) (by kernel_rfl) (door_met os _)) ?_
 intro W base args ds gs before hval0 hW hcnd hsz hL _
 have hval : ∀ (j : Nat) t v, Tryz.f6.params[j]? = some t → args[j]? = some v → Value.okWide Tryz.prog W .any base t v := hval0
 have hW' := hW
 obtain ⟨p, q, hA0, hV, rfl, hfz, hnd⟩ := hW
 have hA : DataW.TrodAll enc Tryz.prog W 0 (fun _ => true) true Tryz.f6.params.toList args.toList ds p := hA0
 rw [Tryz.params6] at hA hval
 obtain ⟨v0, vs0, d0, ds0, p0, q0, hargs, rfl, rfl, h0, r0⟩ := trodAll_cons hA
 obtain ⟨v1, vs1, d1, ds1, p1, q1, rfl, rfl, rfl, h1, r1⟩ := trodAll_cons r0
 obtain ⟨v2, vs2, d2, ds2, p2, q2, rfl, rfl, rfl, h2, r2⟩ := trodAll_cons r1
 obtain ⟨v3, vs3, d3, ds3, p3, q3, rfl, rfl, rfl, h3, r3⟩ := trodAll_cons r2
 obtain ⟨rfl, rfl, rfl⟩ := trodAll_nil r3
 obtain rfl : args = #[v0, v1, v2, v3] := by cases args; simp_all
 obtain ⟨rfl, rfl⟩ := trodVars_none hV
 have k0 := h0
 have lt0 : ∀ x ∈ p0, x.block < W.heap.size := by obtain ⟨m, hm⟩ := k0; exact DataW.trod_lt m _ _ _ hm
 obtain ⟨sw0, sh0, rfl, bw0, bh0⟩ : ∃ a b : Int, v0 = .agg #[.int .i64 a, .int .i64 b] ∧ (-9223372036854775808 ≤ a ∧ a ≤ 9223372036854775807) ∧ (-9223372036854775808 ≤ b ∧ b ≤ 9223372036854775807) := by
  obtain ⟨cs, rfl, _⟩ := okWide_struct Tryz.underlying23 (hval 0 23 v0 rfl rfl)
  obtain ⟨fuel, hf⟩ := h0
  obtain ⟨a, b, e, wa, wb⟩ := open_sizeD hf
  have e' : cs.toList = [.int .i64 a, .int .i64 b] := e
  exact ⟨a, b, by rw [← Array.toArray_toList (xs := cs), e'], wa, wb⟩
 have k1 := h1
 have lt1 : ∀ x ∈ p1, x.block < W.heap.size := by obtain ⟨m, hm⟩ := k1; exact DataW.trod_lt m _ _ _ hm
 obtain ⟨fA1, fc1, fL1, rfl, fd1⟩ : ∃ (A : Option Addr) (c : Nat) (L : List FA), v1 = .slice A L.length c ∧ FrsD W W.heap.size A c L := by
  obtain ⟨a, l, c, rfl⟩ := okWide_slice Tryz.underlying24 (hval 1 24 v1 rfl rfl)
  obtain ⟨fuel, hf⟩ := h1
  have lw : Light d1 24 := light_row (j := 1) hsz (by rw [Tryz.params6]; rfl) rfl
  obtain ⟨A, c', L, e, q⟩ := open_frames hf (fun _ => rfl) lw
  have e' : [Value.slice a l c] = [.slice A L.length c'] := e
  exact ⟨A, c', L, (List.cons.inj e').1, q⟩
 obtain ⟨a2, rfl, rfl, rfl, w2⟩ := open_int Tryz.underlying3 (hval 2 3 v2 rfl rfl) h2
 obtain ⟨a3, l3, c3, rfl⟩ := okWide_slice Tryz.underlying39 (hval 3 39 v3 rfl rfl)
 have k3 := h3
 have lt3 : ∀ x ∈ p3, x.block < W.heap.size := by obtain ⟨m, hm⟩ := k3; exact DataW.trod_lt m _ _ _ hm
 obtain ⟨z3, e3, n3, s3, wz3, zl3, zz3⟩ : ∃ zs : List Int, l3 = zs.length ∧ (a3 = none → c3 = 0) ∧ Sees W W.heap.size a3 (zs.map (.int .i64)) ∧ (∀ n ∈ zs, (Lit.int .i64 n).wf = true) ∧ zs.length ≤ c3 ∧ c3 * 8 ≤ 140737488351232 := by
  obtain ⟨fuel, hf⟩ := h3
  rcases open_ints Tryz.underlying39 Tryz.underlying2 (by kernel_rfl) hf with ⟨hcs, _⟩ | ⟨x, l, c, zs, hcs, _, hl, hm, hz, hd, hcell, hwz⟩
  ·simp [Value.cells] at hcs
   obtain ⟨rfl, rfl, rfl⟩ := hcs
   exact ⟨[], rfl, fun _ => rfl, Sees.nil _ _ _, (fun _ h => by cases h), by decide, by decide⟩
  ·simp [Value.cells] at hcs
   obtain ⟨rfl, rfl, rfl⟩ := hcs
   have hz' : zs.length = c3 := by simpa using hz
   have z := sized_slice hsz (j := 3) (elems := lits .i64 (zs.take l3)) (spare := lits .i64 (zs.drop l3)) (by rw [Tryz.params6]; rfl) (by simp at hd ⊢; exact hd.1) Tryz.underlying39
   refine ⟨zs.take l3, by rw [List.length_take]; omega, (fun e => by cases e), ?_, fun n hn => hwz n (List.mem_of_mem_take hn), by rw [List.length_take]; omega, ?_⟩
   ·intro ne
    have pos : 0 < zs.length := by
     rcases Nat.eq_zero_or_pos zs.length with z | z
     ·exact absurd (by rw [List.eq_nil_of_length_eq_zero z]; simp) ne
     ·exact z
    refine ⟨x, rfl, block_lt_of_cell (a := x.add 0) (hcell 0 pos) |> fun h => by rwa [add_blk] at h, fun j u hu => ?_⟩
    rw [List.getElem?_map] at hu
    obtain ⟨y, hy, rfl⟩ := Option.map_eq_some_iff.1 hu
    have hj : j < zs.length := by have := (List.getElem?_eq_some_iff.1 hy).1; rw [List.length_take] at this; omega
    rw [hcell j hj, List.getD_eq_getElem?_getD]
    have : zs[j]? = some y := by rw [List.getElem?_take] at hy; split at hy; exact hy; cases hy
    rw [this]; rfl
   ·have b : Tryz.prog.bytesOf 2 = 8 := by kernel_rfl
    have b' : Tryz.checked.prog.bytesOf 2 = 8 := b
    rw [b'] at z
    simp [lits, reachBytes] at z
    omega
 subst e3
 clear hA0 hval0
 simp only [List.append_nil] at hW'
 refine (tapeAnywhere_walk sw0 sh0 fA1 fc1 fL1 a2 a3 c3 z3 W (env_v hL) fd1 (bounds_i64 w2) s3 zl3 (by omega)).mono fun e W' ⟨he, bel⟩ => ?_
 subst he
 exact ⟨_, rfl, _, _, _, [], _, [], hW', trodAll_mk1 (shut_bool Tryz.underlying4 _), (trodAll_cons_mk (Below.trod laidOut (by kernel_rfl) (of_decide_eq_true (by kernel_rfl)) k0 bel lt0) (trodAll_cons_mk (Below.trod laidOut (by kernel_rfl) (of_decide_eq_true (by kernel_rfl)) k1 bel lt1) (trodAll_cons_mk (shut_int Tryz.underlying3 w2) (trodAll_cons_mk (Below.trod laidOut (by kernel_rfl) (of_decide_eq_true (by kernel_rfl)) k3 bel lt3) trodAll_mk0)))), rfl, bel.frame _, fun h => by cases h⟩
theorem over : Rows.tapeAnywhereRow.holds Tryz.pinned (OpenSpec.ofChange Rows.tapeAnywhereSpec) :=
 OpenClaim.holds_of_wide 6 Tryz.f6 rfl rfl rfl rfl rfl rfl rfl ⟨rfl, rfl, rfl, rfl, rfl⟩ rfl rfl rfl rfl rfl (by kernel_rfl) Tryz.func6 (by kernel_rfl)
  (of_decide_eq_true (by kernel_rfl)) (by unfold Func.isWrapper; first | (rw [if_pos (by decide +kernel)]; kernel_rfl) | (rw [if_neg (by decide +kernel)]; exact ⟨rfl, rfl⟩))
  (fun os started H enc _ => lifted os started H enc)
theorem plain (f : FuncId) (fn : Func) (hf : Tryz.pinned.checked.prog.funcNamed "fresco/frescolaw30.TapeAnywhere" = some f) (hfn : Tryz.pinned.checked.prog.funcs[f]? = some fn) :
  false = Tryz.pinned.checked.prog.looks [] ∧ ∀ (j : Nat) t, fn.params[j]? = some t → Tryz.pinned.checked.prog.wantsStandIn t = false := by
 obtain rfl : f = 6 := Option.some.inj ((show Tryz.prog.funcNamed "fresco/frescolaw30.TapeAnywhere" = some 6 by kernel_rfl).symm.trans hf) |>.symm
 obtain rfl : fn = Tryz.f6 := (Option.some.inj (Tryz.func6.symm.trans hfn)).symm
 refine ⟨by kernel_rfl, fun j t ht => ?_⟩
 rw [Tryz.params6] at ht
 have hm : t ∈ [23, 24, 3, 39] := by simpa using Array.mem_of_getElem? ht
 have hall : ([23, 24, 3, 39].all fun u => !Tryz.prog.wantsStandIn u) = true := by kernel_rfl
 exact (show Tryz.prog.wantsStandIn t = false by simpa using List.all_eq_true.1 hall t hm)
theorem proved : Rows.TapeAnywhereCardSaid :=
 Claim7.holds_tied_plain_at .later [] _ _ _ _ over (fun _ h => by cases h) (by kernel_rfl) (fun _ h => by cases h) tapeAnywhere_row_tie rfl ⟨rfl, rfl⟩ (by kernel_rfl) rfl plain (by kernel_rfl)
#print axioms proved
end Go.Proofs.YtmaofighbpnbiaaGreatDoor.tapeAnywhere
