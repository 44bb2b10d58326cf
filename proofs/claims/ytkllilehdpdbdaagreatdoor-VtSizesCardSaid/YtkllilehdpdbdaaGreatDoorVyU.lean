/- Two terminals are fed. -/
import Derived.Test.YtkllilehdpdbdaaGreatDoorVyS
import Derived.Test.YtkllilehdpdbdaaGreatDoorVyT
namespace Go.Proofs.YtkllilehdpdbdaaGreatDoor
open Go Go.RowKit Go.Sort
set_option linter.unusedVariables false
set_option linter.unusedSimpArgs false
section
variable {W V V' : World} {xb yb : Nat} {tx ty : Trm} {Z : List Nat}
theorem feed_app2 (t : Trm) (a b : List Int) : feedT t (a ++ b) = feedT (feedT t a) b := by unfold feedT; rw [List.foldl_append]
theorem Two.drop (h : Two W V xb tx yb ty Z) : Two W V xb tx yb ty [] := by
  obtain ⟨L1, L2, a, b, c, d, e, f, g, z⟩ := h.lay
  exact ⟨h.g0, h.bel, L1, L2, a, b, c, d, e, f, g, fun z m => by simp at m⟩
/-- a step of the first, in a world with more in it -/
theorem Two.leftAt (h : Two W V xb tx yb ty Z) (hb : Below V.heap.size V V') : ∃ F, St V' F xb tx V' ∧ (∀ tx' V'', St V' F xb tx' V'' → Two W V'' xb tx' yb ty Z) ∧ (∀ b ∈ F, W.heap.size ≤ b) ∧ ∀ b ∈ F, b < V.heap.size := by
  have h2 := h.below hb
  obtain ⟨L1, L2, a, b, c, d, e, f, g, z⟩ := h.lay
  have c2 := c.keep (fun k m => hb.block k (c.lt k m))
  have d2 := d.keep (fun k m => hb.block k (d.lt k m))
  have z2 : ∀ j ∈ Z, j < V'.heap.size ∧ j ∉ L1.fp ∧ j ∉ L2.fp := fun j m => ⟨Nat.lt_of_lt_of_le (z j m).1 hb.size, (z j m).2⟩
  refine ⟨L1.fp, ⟨h2.env, Mv.refl _ _, fun b m => new_notV h2.g0 (e b m), L1, a, c2, fun b m => Or.inl m⟩, fun tx' V'' k => ?_, e, c.lt⟩
  obtain ⟨L1', a', c', f'⟩ := k.lay
  refine ⟨h2.g0, ⟨k.mv.os.trans h2.bel.os, k.mv.tape.trans h2.bel.tape, k.mv.output.trans h2.bel.output, Nat.le_trans h2.bel.size k.mv.size, fun j hj => (k.mv.blk j (Nat.lt_of_lt_of_le hj h2.bel.size) (fun m => by have := e j m; omega)).trans (h2.bel.block j hj)⟩, L1', L2, a', b, c', d2.keep (fun j m => k.mv.blk j (d2.lt j m) (fun m2 => g j m2 m)), fun j m => ?_, f, fun j m m2 => ?_, fun j m => ⟨Nat.lt_of_lt_of_le (z2 j m).1 k.mv.size, fun m2 => ?_, (z2 j m).2.2⟩⟩
  · rcases f' j m with z | z
    · exact e j z
    · exact Nat.le_trans h2.bel.size z
  · rcases f' j m with z | z
    · exact g j z m2
    · have := d2.lt j m2; omega
  · rcases f' j m2 with q | q
    · exact (z2 j m).2.1 q
    · have := (z2 j m).1; omega
/-- the first is fed what a law was handed -/
theorem Two.feedL {A : Option Addr} {c : Nat} {D : List Int} (h : Two W V xb tx yb ty Z) (a : ArgB W A c D) (Lv : Live tx) (hD : D.length ≤ 1048576) (hh : tx.held.size + D.length ≤ 300000000) :
    Calls Tryz.prog 16 #[.pointer (some ⟨xb, 0, none⟩), .slice A D.length c] V fun e w' => e = .returned (.int .i64 0) ∧ Two W w' xb (feedT tx D) yb ty Z := by
  obtain ⟨F, h1, up, hF, _⟩ := h.left
  refine (t_Feed h1 Lv A c D hD hh a.rng (a.fed h.bel hF)).mono ?_
  rintro e w' ⟨h2, h3⟩
  exact ⟨h2, (up _ _ h3).1⟩
/-- the second -/
theorem Two.feedR {A : Option Addr} {c : Nat} {D : List Int} (h : Two W V xb tx yb ty Z) (a : ArgB W A c D) (Lv : Live ty) (hD : D.length ≤ 1048576) (hh : ty.held.size + D.length ≤ 300000000) :
    Calls Tryz.prog 16 #[.pointer (some ⟨yb, 0, none⟩), .slice A D.length c] V fun e w' => e = .returned (.int .i64 0) ∧ Two W w' xb tx yb (feedT ty D) Z := by
  refine (h.symm.feedL a Lv hD hh).mono ?_
  rintro e w' ⟨h2, h3⟩
  exact ⟨h2, h3.symm⟩
/-- the first is fed bytes of a literal -/
theorem Two.feedLit (h : Two W V xb tx yb ty Z) (Lv : Live tx) (D : List Int) (hD : D.length ≤ 1000) (rng : ∀ b ∈ D, 0 ≤ b ∧ b < 256) (hh : tx.held.size ≤ 299000000) (fl : Nat × Nat) :
    Calls Tryz.prog 16 #[.pointer (some ⟨xb, 0, none⟩), .slice (some ⟨V.heap.size, 0, none⟩) D.length D.length] (V.alloc (.cells (D.map fun b => Value.int .u8 b).toArray 5 fl)) fun e w' => e = .returned (.int .i64 0) ∧ Two W w' xb (feedT tx D) yb ty Z := by
  have BV2 : Below V.heap.size V (V.alloc (.cells (D.map fun b => Value.int .u8 b).toArray 5 fl)) := (Below.refl _ V).alloc (Nat.le_refl _) _
  obtain ⟨F, h2, up, _, hF⟩ := h.leftAt BV2
  refine (t_Feed h2 Lv (some ⟨V.heap.size, 0, none⟩) D.length D (by omega) (by omega) rng (fed_lit D (World.alloc_heap_new V _) hF)).mono ?_
  rintro e w' ⟨h1, h3⟩
  exact ⟨h1, up _ _ h3⟩
/-- what ESC c left, once what was written and answered is taken -/
theorem reset_back (w h : Int) (r : ByteArray) : noR (nowW (allW { newV w h with reps := r })) = newV w h := by
  unfold noR nowW allW newV
  simp only [List.length_replicate]
theorem written_all (w h : Int) (r : ByteArray) : (writtenT (allW { newV w h with reps := r })).length = (w * h).toNat := by
  unfold writtenT allW newV
  simp only [List.length_replicate, List.length_map]
  rw [List.filter_eq_self.2, List.length_range]
  intro i m
  rw [List.getD_eq_getElem?_getD, List.getElem?_replicate, if_pos (List.mem_range.1 m)]
  rfl
end
end Go.Proofs.YtkllilehdpdbdaaGreatDoor
