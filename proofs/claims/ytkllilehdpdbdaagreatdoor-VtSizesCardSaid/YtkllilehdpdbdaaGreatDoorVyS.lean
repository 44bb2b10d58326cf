/- The law's alike. -/
import Derived.Test.YtkllilehdpdbdaaGreatDoorVyR
namespace Go.Proofs.YtkllilehdpdbdaaGreatDoor
open Go Go.RowKit Go.Sort
set_option linter.unusedVariables false
set_option linter.unusedSimpArgs false
section
variable {W V : World} {xb yb : Nat} {tx ty : Trm} {Z : List Nat}
def nowW (t : Trm) : Trm := { t with wrt := List.replicate t.wrt.length false }
theorem a_Screen (h : Two W V xb tx yb ty Z) (f : Fine tx) : Calls Tryz.prog 24 #[.pointer (some ⟨xb, 0, none⟩)] V fun e w' => ∃ A c, e = .returned (scrV (seenT tx) A c) ∧ RowAt w' 49 5 (.slice A tx.cells.length c) tx.cells.length (celsV tx.cells) ∧ Below V.heap.size V w' := by
  obtain ⟨F, S, _⟩ := h.left
  refine (t_Screen S f).mono ?_
  rintro e w' ⟨A, c, h1, h2, h3⟩
  exact ⟨A, c, h1, h2.1, h3⟩
theorem a_Written (h : Two W V xb tx yb ty Z) (hl : tx.wrt.length ≤ 1048576) : Calls Tryz.prog 22 #[.pointer (some ⟨xb, 0, none⟩)] V fun e w' => ∃ A c Z', e = .returned (.slice A (writtenT tx).length c) ∧ Sees w' w'.heap.size A (ints (writtenT tx)) ∧ (∀ a, A = some a → a.block ∈ Z') ∧ (∀ z ∈ Z, z ∈ Z') ∧ (∀ z ∈ Z, w'.heap[z]? = V.heap[z]?) ∧ Two W w' xb (nowW tx) yb ty Z' ∧ V.heap.size ≤ w'.heap.size := by
  obtain ⟨F, S, up, _⟩ := h.left
  refine (t_Written S hl).mono ?_
  rintro e w' ⟨v, rfl, ho, hs⟩
  obtain ⟨h2, h3⟩ := up _ _ hs
  obtain ⟨A, c, rfl⟩ := own_slc ho
  have SE := Sees.of_own ho
  rcases (own_form ho).2 with ⟨e1, e2⟩ | ⟨g, c', e1, e2, _⟩
  · simp only [Value.slice.injEq] at e1
    obtain ⟨rfl, _, _⟩ := e1
    exact ⟨none, c, Z, rfl, SE, fun a e => by (cases e), fun z m => m, h3, h2, hs.mv.size⟩
  · simp only [Value.slice.injEq] at e1
    obtain ⟨rfl, _, rfl⟩ := e1
    rcases ho.2 with ⟨e3, _⟩ | ⟨g', cap, cur, e3, _, hg, _⟩
    · cases e3
    · simp only [Value.slice.injEq, Option.some.injEq, Addr.mk.injEq] at e3
      obtain ⟨⟨rfl, _⟩, _⟩ := e3
      exact ⟨_, _, g :: Z, rfl, SE, fun a e => by (cases e; exact List.mem_cons_self), fun z m => List.mem_cons_of_mem _ m, h3, h2.other hg (by decide), hs.mv.size⟩
theorem a_Title (h : Two W V xb tx yb ty Z) : Calls Tryz.prog 25 #[.pointer (some ⟨xb, 0, none⟩)] V fun e w' => e = .returned (.string tx.name) ∧ w' = V := by
  obtain ⟨F, S, _⟩ := h.left
  exact t_Title S
theorem sees_z {V V' : World} {A : Option Addr} {xs : List Value} (h : Sees V V.heap.size A xs) (hs : V.heap.size ≤ V'.heap.size) (k : ∀ a, A = some a → V'.heap[a.block]? = V.heap[a.block]?) : Sees V' V'.heap.size A xs := fun hne => by
  obtain ⟨ad, e, h1, h2⟩ := h hne
  exact ⟨ad, e, Nat.lt_of_lt_of_le h1 hs, fun j u hj => (World.cell?_of_block (by rw [add_blk]; exact k ad e)).trans (h2 j u hj)⟩
theorem seen_cells (t : Trm) : (seenT t).cells = t.cells := by unfold seenT; split <;> rfl
theorem written_len (t : Trm) : (writtenT t).length ≤ t.wrt.length := by
  unfold writtenT
  rw [List.length_map]
  refine Nat.le_trans (List.length_filter_le _ _) ?_
  rw [List.length_range]
  exact Nat.le_refl _
set_option maxHeartbeats 16000000 in
set_option maxRecDepth 100000 in
theorem law_alike (h : Two W V xb tx yb ty []) (fx : Fine tx) (fy : Fine ty) (es : seenT tx = seenT ty) (ew : writtenT tx = writtenT ty) (er : tx.reps = ty.reps) (en : tx.name = ty.name) :
    Calls Tryz.prog 21 #[.pointer (some ⟨xb, 0, none⟩), .pointer (some ⟨yb, 0, none⟩)] V fun e w' => e = .returned (.bool true) ∧ Below W.heap.size W w' := by
  have TW : Hid (Two W V.drew xb tx yb ty []) := Lib.hid (h.below (Below.refl _ V).drew)
  have wx : tx.wrt.length ≤ 1048576 := by have := fx.wl; have := fx.cl; have := fx.ar; omega
  have wy : ty.wrt.length ≤ 1048576 := by have := fy.wl; have := fy.cl; have := fy.ar; omega
  have ec : tx.cells = ty.cells := by rw [← seen_cells tx, ← seen_cells ty, es]
  have SM : Hid (∀ U A1 c1 A2 c2, RowAt U 49 5 (.slice A1 tx.cells.length c1) tx.cells.length (celsV tx.cells) → RowAt U 49 5 (.slice A2 ty.cells.length c2) ty.cells.length (celsV ty.cells) → Calls Tryz.prog 42 #[scrV (seenT tx) A1 c1, scrV (seenT ty) A2 c2] U fun e w' => e = .returned (.bool true) ∧ Below U.heap.size U w') := Lib.hid (fun U A1 c1 A2 c2 h1 h2 => by
    rw [es]
    refine law_same (seenT ty) A1 A2 c1 c2 U (by rw [seen_cells]; have := fy.cl; have := fy.ar; omega) ?_ ?_
    · rw [seen_cells, ← ec]; exact h1
    · rw [seen_cells]; exact h2)
  have SI : Hid (∀ U A1 c1 A2 c2, Sees U U.heap.size A1 (ints (writtenT tx)) → Sees U U.heap.size A2 (ints (writtenT ty)) → Calls Tryz.prog 43 #[.slice A1 (writtenT tx).length c1, .slice A2 (writtenT ty).length c2] U fun e w' => e = .returned (.bool true) ∧ Below U.heap.size U w') := Lib.hid (fun U A1 c1 A2 c2 h1 h2 => by
    rw [ew] at h1 ⊢
    exact law_sameInts (writtenT ty) A1 A2 c1 c2 U (by have := written_len ty; omega) h1 h2)
  obtain ⟨RP, hRP⟩ : ∃ RP, RP = ty.reps := ⟨_, rfl⟩
  obtain ⟨NP, hNP⟩ : ∃ NP, NP = ty.name := ⟨_, rfl⟩
  have RX : Hid (tx.reps = RP) := Lib.hid (er.trans hRP.symm)
  have RY : Hid (ty.reps = RP) := Lib.hid hRP.symm
  have NX : Hid (tx.name = NP) := Lib.hid (en.trans hNP.symm)
  have NY : Hid (ty.name = NP) := Lib.hid hNP.symm
  have FX := Lib.hid fx
  have FY := Lib.hid fy
  have BX := Lib.hid wx
  have BY := Lib.hid wy
  clear h fx fy es ew er en ec wx wy hRP hNP
  go_enter Tryz.func21, Tryz.ntmps21
  go_upto_region 1 with fail
  go_region_with (first
    | (go_at_call_of 24 (xb); refine (a_Screen TW.out FX.out).mono ?_; rintro e u1 ⟨A1, c1, rfl, N1, hb⟩; have TW := Lib.hid (TW.out.below hb); have N1 := Lib.hid N1; clear hb)
    | (go_at_call_of 24 (yb); refine (a_Screen TW.out.symm FY.out).mono ?_; rintro e u2 ⟨A2, c2, rfl, N2, hb⟩; have TW := Lib.hid (TW.out.below hb); have N1 := Lib.hid (N1.out.keep (fun g m => hb.block g (N1.out.lt g m))); have N2 := Lib.hid N2; clear hb)
    | (go_at_call 42; refine (SM.out _ _ _ _ _ N1.out N2.out).mono ?_; rintro e u3 ⟨rfl, hb⟩; have TW := Lib.hid (TW.out.below hb); clear hb)
    | (go_at_call_of 22 (xb); refine (a_Written TW.out BX.out).mono ?_; rintro e u4 ⟨A4, c4, Z4, rfl, SE4, zm4, zz4, ze4, T4, sz4⟩; have TW := Lib.hid T4; have SE4 := Lib.hid SE4; have ZM4 := Lib.hid zm4; clear zm4 zz4 ze4 T4 sz4)
    | (go_at_call_of 22 (yb); refine (a_Written TW.out.symm BY.out).mono ?_; rintro e u5 ⟨A5, c5, Z5, rfl, SE5, zm5, zz5, ze5, T5, sz5⟩; have TW := Lib.hid T5.symm; have SE4 := Lib.hid (sees_z SE4.out sz5 (fun a e => ze5 _ (ZM4.out a e))); have SE5 := Lib.hid SE5; clear zm5 zz5 ze5 T5 sz5)
    | (go_at_call 43; refine (SI.out _ _ _ _ _ SE4.out SE5.out).mono ?_; rintro e u6 ⟨rfl, hb⟩; have TW := Lib.hid (TW.out.below hb); clear hb)
    | (go_at_call_of 17 (xb); refine (two_Replies TW.out).mono ?_; rintro e u7 ⟨v7, rfl, K7, T7, _⟩; have K7 : KeptAt u7 v7 RP := by rw [← RX.out]; exact K7
       obtain ⟨A7, c7, e7, _⟩ := id K7; subst e7; have CV7 := kept_string K7; have TW := Lib.hid T7; have K7 := Lib.hid K7; clear T7)
    | (go_at_call_of 17 (yb); refine (two_Replies TW.out.symm).mono ?_; rintro e u8 ⟨v8, rfl, K8, T8, ze8⟩; have K8 : KeptAt u8 v8 RP := by rw [← RY.out]; exact K8
       have K7b := K7.out.keep (fun g m => ze8 g (List.mem_append_left _ m)); have CV7b := kept_string K7b; obtain ⟨A8, c8, e8, _⟩ := id K8; subst e8; have CV8 := kept_string K8; have TW := Lib.hid T8.symm; clear T8 ze8 K8 K7b)
    | (go_at_call_of 25 (xb); refine (a_Title TW.out).mono ?_; rintro e u9 ⟨rfl, rfl⟩; rw [show (noR (nowW tx)).name = NP from NX.out])
    | (go_at_call_of 25 (yb); refine (a_Title TW.out.symm).mono ?_; rintro e u10 ⟨rfl, rfl⟩; rw [show (noR (nowW ty)).name = NP from NY.out]))
  all_goals (go_wp2_with fail)
  all_goals go_ret
  all_goals exact ⟨rfl, TW.out.bel⟩
end
end Go.Proofs.YtkllilehdpdbdaaGreatDoor
