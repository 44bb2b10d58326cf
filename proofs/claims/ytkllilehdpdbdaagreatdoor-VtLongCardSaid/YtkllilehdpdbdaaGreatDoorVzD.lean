/- The law's alike, with what lies beside. -/
import Derived.Test.YtkllilehdpdbdaaGreatDoorVyU
namespace Go.Proofs.YtkllilehdpdbdaaGreatDoor
open Go Go.RowKit Go.Sort
set_option linter.unusedVariables false
set_option linter.unusedSimpArgs false
section
variable {W V : World} {xb yb : Nat} {tx ty : Trm} {Z : List Nat}
/-- what is looked after stays -/
def KeepZ (Z Zc : List Nat) (V U : World) : Prop := ∀ z ∈ Z, U.heap[z]? = V.heap[z]? ∧ z ∈ Zc ∧ z < V.heap.size
theorem KeepZ.lt {Z Zc : List Nat} {V U : World} (h : KeepZ Z Zc V U) : ∀ z ∈ Z, z < U.heap.size := fun z m => by
  obtain ⟨a, _, c⟩ := h z m
  rw [Array.getElem?_eq_getElem c] at a
  exact (Array.getElem?_eq_some_iff.1 a).1
theorem KeepZ.below {Z Zc : List Nat} {V U U' : World} (h : KeepZ Z Zc V U) (hb : Below U.heap.size U U') : KeepZ Z Zc V U' := fun z m => ⟨(hb.block z (h.lt z m)).trans (h z m).1, (h z m).2⟩
theorem KeepZ.step {Z Zc Zd : List Nat} {V U U' : World} (h : KeepZ Z Zc V U) (zm : ∀ z ∈ Zc, z ∈ Zd) (zz : ∀ z ∈ Zc, U'.heap[z]? = U.heap[z]?) : KeepZ Z Zd V U' := fun z m => ⟨(zz z (h z m).2.1).trans (h z m).1, zm z (h z m).2.1, (h z m).2.2⟩
theorem KeepZ.fin {Z Zc : List Nat} {V U U' : World} (h : KeepZ Z Zc V U) (zz : ∀ z ∈ Zc, U'.heap[z]? = U.heap[z]?) : KeepZ Z Zc V U' := h.step (fun _ m => m) zz
set_option maxHeartbeats 16000000 in
set_option maxRecDepth 100000 in
/-- alike, and what is looked after stays -/
theorem law_alikeZ (h : Two W V xb tx yb ty Z) (fx : Fine tx) (fy : Fine ty) (es : seenT tx = seenT ty) (ew : writtenT tx = writtenT ty) (er : tx.reps = ty.reps) (en : tx.name = ty.name) :
    Calls Tryz.prog 21 #[.pointer (some ⟨xb, 0, none⟩), .pointer (some ⟨yb, 0, none⟩)] V fun e w' => e = .returned (.bool true) ∧ Below W.heap.size W w' ∧ ∀ z ∈ Z, w'.heap[z]? = V.heap[z]? := by
  have TW : Hid (Two W V.drew xb tx yb ty Z) := Lib.hid (h.below (Below.refl _ V).drew)
  have KZ : Hid (KeepZ Z Z V V.drew) := Lib.hid (fun z m => by
    obtain ⟨L1, L2, a, b, c, d, e, f, g, q⟩ := h.lay
    exact ⟨rfl, m, (q z m).1⟩)
  have wx : tx.wrt.length ≤ 1048576 := by have := fx.wl; have := fx.cl; have := fx.ar; omega
  have wy : ty.wrt.length ≤ 1048576 := by have := fy.wl; have := fy.cl; have := fy.ar; omega
  have ec : tx.cells = ty.cells := by rw [← seen_cells tx, ← seen_cells ty, es]
  have SM : Hid (∀ U A1 c1 A2 c2, RowAt U 49 5 (.slice A1 tx.cells.length c1) tx.cells.length (celsV tx.cells) → RowAt U 49 5 (.slice A2 ty.cells.length c2) ty.cells.length (celsV ty.cells) → Calls Tryz.prog 42 #[scrV (seenT tx) A1 c1, scrV (seenT ty) A2 c2] U fun e w' => e = .returned (.bool true) ∧ Below U.heap.size U w') := Lib.hid (fun U A1 c1 A2 c2 h1 h2 => by
    rw [es]
    refine law_same (seenT ty) A1 A2 c1 c2 U (by rw [seen_cells]; have := fy.cl; have := fy.ar; omega) ?_ ?_
    · rw [seen_cells, ← ec]; exact h1
    · rw [seen_cells]; exact h2)
  have SI : Hid (∀ U A1 c1 A2 c2, Sees U U.heap.size A1 (ints (writtenT tx)) → Sees U U.heap.size A2 (ints (writtenT ty)) → Calls Tryz.prog 43 #[.slice A1 (writtenT tx).length c1, .slice A2 (writtenT ty).length c2] U fun e w' => e = .returned (.bool true) ∧ Below U.heap.size U w') := Lib.hid (fun U A1 c1 A2 c2 h1 h2 => by
    rw [ew] at h1 ⊢
    exact law_sameInts (writtenT ty) A1 A2 c1 c2 U (by have := written_len ty; omega) h1 h2)
  obtain ⟨RP, hRP⟩ : ∃ RP, RP = ty.reps := ⟨_, rfl⟩
  obtain ⟨NP, hNP⟩ : ∃ NP, NP = ty.name := ⟨_, rfl⟩
  have RX : Hid (tx.reps = RP) := Lib.hid (er.trans hRP.symm)
  have RY : Hid (ty.reps = RP) := Lib.hid hRP.symm
  have NX : Hid (tx.name = NP) := Lib.hid (en.trans hNP.symm)
  have NY : Hid (ty.name = NP) := Lib.hid hNP.symm
  have FX := Lib.hid fx
  have FY := Lib.hid fy
  have BX := Lib.hid wx
  have BY := Lib.hid wy
  clear h fx fy es ew er en ec wx wy hRP hNP
  go_enter Tryz.func21, Tryz.ntmps21
  go_upto_region 1 with fail
  go_region_with (first
    | (go_at_call_of 24 (xb); refine (a_Screen TW.out FX.out).mono ?_; rintro e u1 ⟨A1, c1, rfl, N1, hb⟩; have TW := Lib.hid (TW.out.below hb); have N1 := Lib.hid N1; have KZ := Lib.hid (KZ.out.below hb); clear hb)
    | (go_at_call_of 24 (yb); refine (a_Screen TW.out.symm FY.out).mono ?_; rintro e u2 ⟨A2, c2, rfl, N2, hb⟩; have TW := Lib.hid (TW.out.below hb); have N1 := Lib.hid (N1.out.keep (fun g m => hb.block g (N1.out.lt g m))); have N2 := Lib.hid N2; have KZ := Lib.hid (KZ.out.below hb); clear hb)
    | (go_at_call 42; refine (SM.out _ _ _ _ _ N1.out N2.out).mono ?_; rintro e u3 ⟨rfl, hb⟩; have TW := Lib.hid (TW.out.below hb); have KZ := Lib.hid (KZ.out.below hb); clear hb)
    | (go_at_call_of 22 (xb); refine (a_Written TW.out BX.out).mono ?_; rintro e u4 ⟨A4, c4, Z4, rfl, SE4, zm4, zz4, ze4, T4, sz4⟩; have TW := Lib.hid T4; have SE4 := Lib.hid SE4; have ZM4 := Lib.hid zm4; have KZ := Lib.hid (KZ.out.step zz4 ze4); clear zm4 zz4 ze4 T4 sz4)
    | (go_at_call_of 22 (yb); refine (a_Written TW.out.symm BY.out).mono ?_; rintro e u5 ⟨A5, c5, Z5, rfl, SE5, zm5, zz5, ze5, T5, sz5⟩; have TW := Lib.hid T5.symm; have SE4 := Lib.hid (sees_z SE4.out sz5 (fun a e => ze5 _ (ZM4.out a e))); have SE5 := Lib.hid SE5; have KZ := Lib.hid (KZ.out.step zz5 ze5); clear zm5 zz5 ze5 T5 sz5)
    | (go_at_call 43; refine (SI.out _ _ _ _ _ SE4.out SE5.out).mono ?_; rintro e u6 ⟨rfl, hb⟩; have TW := Lib.hid (TW.out.below hb); have KZ := Lib.hid (KZ.out.below hb); clear hb)
    | (go_at_call_of 17 (xb); refine (two_Replies TW.out).mono ?_; rintro e u7 ⟨v7, rfl, K7, T7, ze7⟩; have KZ := Lib.hid (KZ.out.step (fun z m => List.mem_append_right (ob v7) m) ze7); have K7 : KeptAt u7 v7 RP := by rw [← RX.out]; exact K7
       obtain ⟨A7, c7, e7, _⟩ := id K7; subst e7; have CV7 := kept_string K7; have TW := Lib.hid T7; have K7 := Lib.hid K7; clear T7)
    | (go_at_call_of 17 (yb); refine (two_Replies TW.out.symm).mono ?_; rintro e u8 ⟨v8, rfl, K8, T8, ze8⟩; have KZ := Lib.hid (KZ.out.fin ze8); have K8 : KeptAt u8 v8 RP := by rw [← RY.out]; exact K8
       have K7b := K7.out.keep (fun g m => ze8 g (List.mem_append_left _ m)); have CV7b := kept_string K7b; obtain ⟨A8, c8, e8, _⟩ := id K8; subst e8; have CV8 := kept_string K8; have TW := Lib.hid T8.symm; clear T8 ze8 K8 K7b)
    | (go_at_call_of 25 (xb); refine (a_Title TW.out).mono ?_; rintro e u9 ⟨rfl, rfl⟩; rw [show (noR (nowW tx)).name = NP from NX.out])
    | (go_at_call_of 25 (yb); refine (a_Title TW.out.symm).mono ?_; rintro e u10 ⟨rfl, rfl⟩; rw [show (noR (nowW ty)).name = NP from NY.out]))
  all_goals (go_wp2_with fail)
  all_goals go_ret
  all_goals exact ⟨rfl, TW.out.bel, fun z m => (KZ.out z m).1⟩
end
end Go.Proofs.YtkllilehdpdbdaaGreatDoor
