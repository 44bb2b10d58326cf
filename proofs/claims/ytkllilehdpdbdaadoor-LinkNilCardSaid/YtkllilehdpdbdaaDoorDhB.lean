/- The law's bound (beyond): the walk. -/
import Derived.Test.YtkllilehdpdbdaaDoorDgJf
namespace Go.Proofs.YtkllilehdpdbdaaDoor
open Go Go.RowKit Go.Sort
set_option linter.unusedVariables false
set_option linter.unusedSimpArgs false

/-- a screen, and where its cells lie -/
structure SA where
  s : Scr
  A : Option Addr
  c : Nat
def scrC (t : SA) : List Value := [.int .i64 t.s.w, .int .i64 t.s.h, .slice t.A t.s.cells.length t.c, .int .i64 t.s.x, .int .i64 t.s.y, .bool t.s.shown]
def scrsV (L : List SA) : List Value := L.flatMap scrC
theorem scrsV_cons (a : SA) (r : List SA) : scrsV (a :: r) = scrC a ++ scrsV r := by unfold scrsV; exact List.flatMap_cons ..
theorem scrsV_app (a b : List SA) : scrsV (a ++ b) = scrsV a ++ scrsV b := by unfold scrsV; exact List.flatMap_append
theorem scrsV_len (l : List SA) : (scrsV l).length = l.length * 6 := by
  induction l with
  | nil => rfl
  | cons a l ih => rw [scrsV_cons, List.length_append, ih, List.length_cons]; simp [scrC]; omega
theorem scrsV_drop (l : List SA) : ∀ k, scrsV (l.drop k) = (scrsV l).drop (k * 6) := by
  induction l with
  | nil => intro k; simp [scrsV]
  | cons a l ih =>
    intro k
    cases k with
    | zero => simp
    | succ k =>
      rw [List.drop_succ_cons, ih, scrsV_cons, show (k + 1) * 6 = 6 + k * 6 by omega, ← List.drop_drop]
      rfl
theorem scr_nth {w : World} {B : Nat} {A : Option Addr} {L : List SA} (h : Sees w B A (scrsV L)) (k : Nat) (hk : k < L.length) : ∃ ad, A = some ad ∧ ad.block < B ∧ w.cell? (ad.add (k * 6)) = some (.int .i64 (L[k]).s.w) ∧ w.cell? ⟨(ad.add (k * 6)).block, (ad.add (k * 6)).off + 1, none⟩ = some (.int .i64 (L[k]).s.h) ∧ w.cell? ⟨(ad.add (k * 6)).block, (ad.add (k * 6)).off + 2, none⟩ = some (.slice (L[k]).A (L[k]).s.cells.length (L[k]).c) ∧ w.cell? ⟨(ad.add (k * 6)).block, (ad.add (k * 6)).off + 3, none⟩ = some (.int .i64 (L[k]).s.x) ∧ w.cell? ⟨(ad.add (k * 6)).block, (ad.add (k * 6)).off + 4, none⟩ = some (.int .i64 (L[k]).s.y) ∧ w.cell? ⟨(ad.add (k * 6)).block, (ad.add (k * 6)).off + 5, none⟩ = some (.bool (L[k]).s.shown) := by
  obtain ⟨ad, e, hb, _⟩ := h (fun e => by have := scrsV_len L; rw [e] at this; simp at this; omega)
  subst e
  have S := h.dropV (k * 6)
  rw [← scrsV_drop, List.drop_eq_getElem_cons hk, scrsV_cons] at S
  obtain ⟨ad', e, _, hc⟩ := S (by simp [scrC])
  cases e
  refine ⟨ad, rfl, hb, ?_, ?_, ?_, ?_, ?_, ?_⟩
  · have := hc 0 _ rfl
    rwa [show (ad.add (k * 6)).add 0 = ad.add (k * 6) by unfold Addr.add; rw [if_pos rfl]] at this
  · rw [add_ltt _ 1 (by decide)]; exact hc 1 _ rfl
  · rw [add_ltt _ 2 (by decide)]; exact hc 2 _ rfl
  · rw [add_ltt _ 3 (by decide)]; exact hc 3 _ rfl
  · rw [add_ltt _ 4 (by decide)]; exact hc 4 _ rfl
  · rw [add_ltt _ 5 (by decide)]; exact hc 5 _ rfl

def bulk (L : List Cel) : Nat := (L.map fun c => 1 + c.text.size).sum
def total (L : List SA) : Nat := (L.map fun t => bulk t.s.cells).sum
theorem bulk_app (a b : List Cel) : bulk (a ++ b) = bulk a + bulk b := by simp [bulk]
theorem bulk_take (L : List Cel) (k : Nat) (h : k < L.length) : bulk (L.take (k + 1)) = bulk (L.take k) + (1 + (L[k]).text.size) := by
  rw [List.take_succ_eq_append_getElem h, bulk_app]
  simp [bulk]
theorem bulk_le (L : List Cel) (k : Nat) : bulk (L.take k) ≤ bulk L := by
  conv => rhs; rw [← List.take_append_drop k L, bulk_app]
  omega
theorem total_app (a b : List SA) : total (a ++ b) = total a + total b := by simp [total]
theorem total_take (L : List SA) (k : Nat) (h : k < L.length) : total (L.take (k + 1)) = total (L.take k) + bulk (L[k]).s.cells := by
  rw [List.take_succ_eq_append_getElem h, total_app]
  simp [total]
theorem total_le (L : List SA) (k : Nat) : total (L.take k) ≤ total L := by
  conv => rhs; rw [← List.take_append_drop k L, total_app]
  omega
theorem bulk_tot (L : List Cel) : (L.map fun c => c.text.size).sum + L.length = bulk L := by
  induction L with
  | nil => rfl
  | cons a L ih => simp [bulk] at *; omega

end Go.Proofs.YtkllilehdpdbdaaDoor
