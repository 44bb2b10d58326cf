/- Rows of patches: four cells each. -/
import Derived.Test.YthcdcbibbfdjmaaDoorStyO
import Derived.Test.YthcdcbibbfdjmaaDoorStyEd
namespace Go.Proofs.YthcdcbibbfdjmaaDoor
open Go.RowKit
set_option linter.unusedVariables false

def patsV (l : List Pat) : List Value := l.flatMap patL
theorem patsV_cons (a : Pat) (r : List Pat) : patsV (a :: r) = patL a ++ patsV r := by unfold patsV; exact List.flatMap_cons ..
theorem patsV_len (l : List Pat) : (patsV l).length = l.length * 4 := by
  induction l with
  | nil => rfl
  | cons a r ih =>
    have l4 : (patL a).length = 4 := rfl
    rw [patsV_cons, List.length_append, ih, List.length_cons]; omega
theorem patsV_app (a b : List Pat) : patsV (a ++ b) = patsV a ++ patsV b := by unfold patsV; exact List.flatMap_append
theorem patsV_at : ∀ (l : List Pat) (j : Nat) (p : Pat), l[j]? = some p → ∀ i u, (patL p)[i]? = some u → (patsV l)[j * 4 + i]? = some u := by
  intro l
  induction l with
  | nil => intro j p h; simp at h
  | cons a r ih =>
    intro j p h i u hu
    rw [patsV_cons]
    have l4 : (patL a).length = 4 := rfl
    cases j with
    | zero =>
      simp at h
      subst h
      have : i < (patL a).length := (List.getElem?_eq_some_iff.1 hu).1
      rw [Nat.zero_mul, Nat.zero_add, List.getElem?_append_left this]
      exact hu
    | succ j =>
      simp at h
      rw [List.getElem?_append_right (by omega), show (j + 1) * 4 + i - (patL a).length = j * 4 + i by omega]
      exact ih j p h i u hu
/-- each cell of the row is a patch's -/
theorem patsV_of (l : List Pat) (j : Nat) (u : Value) (h : (patsV l)[j]? = some u) : ∃ p, l[j / 4]? = some p ∧ (patL p)[j % 4]? = some u := by
  have lt := (List.getElem?_eq_some_iff.1 h).1
  rw [patsV_len] at lt
  have k : j / 4 < l.length := by omega
  refine ⟨l[j / 4], List.getElem?_eq_getElem k, ?_⟩
  have l4 : j % 4 < (patL l[j / 4]).length := by show j % 4 < 4; omega
  have := patsV_at l (j / 4) _ (List.getElem?_eq_getElem k) (j % 4) _ (List.getElem?_eq_getElem l4)
  rw [show j / 4 * 4 + j % 4 = j by omega, h] at this
  rw [List.getElem?_eq_getElem l4]
  exact this.symm
theorem patsV_cell (l : List Pat) : ∀ u ∈ patsV l, u.oneCell' = true := by
  intro u hu
  unfold patsV at hu
  obtain ⟨p, _, h⟩ := List.mem_flatMap.1 hu
  unfold patL at h
  simp at h
  rcases h with rfl | rfl | rfl | rfl <;> rfl

theorem SeesP.cells {w : World} {B : Nat} {ad : Addr} {l : List Pat} (h : SeesP w B (some ad) l) : ∀ j u, (patsV l)[j]? = some u → ad.block < B ∧ w.cell? (ad.add j) = some u := by
  intro j u hu
  obtain ⟨p, hp, hi⟩ := patsV_of l j u hu
  obtain ⟨ad', e, b, c⟩ := h (fun e => by rw [e] at hp; simp at hp)
  cases e
  have := c _ _ hp _ _ hi
  rw [show j / 4 * 4 + j % 4 = j by omega] at this
  exact ⟨b, this⟩
theorem SeesP.below {w w' : World} {B B' : Nat} {A : Option Addr} {xs : List Pat} (h : SeesP w B A xs) (hb : Below B' w w') (hB : B ≤ B') : SeesP w' B A xs := fun n => by
  obtain ⟨ad, e, b, c⟩ := h n
  exact ⟨ad, e, b, fun j p hp i u hu => (hb.cell (by rw [add_blk]; omega)).trans (c j p hp i u hu)⟩
theorem SeesP.more {w : World} {B B' : Nat} {A : Option Addr} {xs : List Pat} (h : SeesP w B A xs) (hB : B ≤ B') : SeesP w B' A xs := fun n => by
  obtain ⟨ad, e, b, c⟩ := h n
  exact ⟨ad, e, by omega, c⟩
theorem SeesP.of_own {w : World} {base : Nat} {T : TypeId} {A : Option Addr} {n c : Nat} {l : List Pat} (h : w.ownsRow base T 4 (.slice A n c) n (patsV l)) : SeesP w w.heap.size A l := fun hne => by
  rcases h.2 with ⟨_, h0⟩ | ⟨g, cap, cur, e, _, hg, _⟩
  · exact absurd (List.eq_nil_of_length_eq_zero (by have := h.1; rw [patsV_len] at this; omega)) hne
  · injection e with e1
    subst e1
    exact ⟨_, rfl, Sees.of_own.block_lt_of_row hg, fun j p hp i u hu => h.cells (g := g) rfl _ _ (patsV_at l j p hp i u hu)⟩

theorem own4_call {w w' : World} {base : Nat} {T : TypeId} {v : Value} {n : Nat} {xs : List Value} (h : w.ownsRow base T 4 v n xs) (hb : Below w.heap.size w w') : w'.ownsRow base T 4 v n xs :=
  h.kept (row := none) ⟨hb.os, hb.tape, hb.output, hb.size, fun k hk _ => hb.block k hk⟩ (by cases v.ownBlock <;> simp)
theorem own4_form {w : World} {base : Nat} {T : TypeId} {v : Value} {n : Nat} {xs : List Value} (h : w.ownsRow base T 4 v n xs) : xs.length = n * 4 ∧ ((v = .slice none 0 0 ∧ n = 0) ∨ ∃ g c, v = .slice (some ⟨g, 0, none⟩) n c ∧ base ≤ g ∧ g < w.heap.size ∧ n ≤ c ∧ c ≤ maxLen) := by
  refine ⟨h.1, ?_⟩
  rcases h.2 with a | ⟨g, cap, cur, e, b, hg, n1, n2, _⟩
  · exact Or.inl a
  · exact Or.inr ⟨g, cap, e, b, Sees.of_own.block_lt_of_row hg, n1, n2⟩
theorem own4_take {w : World} {base : Nat} {T : TypeId} {g n m c : Nat} {xs : List Value} (h : w.ownsRow base T 4 (.slice (some ⟨g, 0, none⟩) n c) n xs) (hm : m ≤ n) : w.ownsRow base T 4 (.slice (some ⟨g, 0, none⟩) m c) m (xs.take (m * 4)) := by
  have hl : xs.length = n * 4 := h.1
  refine ⟨by rw [List.length_take]; omega, ?_⟩
  rcases h.2 with ⟨e, _⟩ | ⟨g', c', cur, e, b, hg, n1, n2, n3, n4⟩
  · cases e
  · injection e with e1 e2 e3
    injection e1 with e1
    injection e1 with e1
    subst e1 e3
    refine Or.inr ⟨g, c, cur, rfl, b, hg, by omega, n2, n3, ?_⟩
    rw [← n4, List.take_take, Nat.min_eq_left (by omega)]
theorem own4_mine {w : World} {lo g n c k : Nat} {T : TypeId} {ps qs : List Pat} (hn : n = ps.length) (h : w.ownsRow lo T 4 (.slice (some ⟨g, 0, none⟩) (n + k) c) (n + k) (patsV (ps ++ qs))) : w.ownsRow lo T 4 (.slice (some ⟨g, 0, none⟩) n c) n (patsV ps) := by
  have := own4_take h (m := n) (by omega)
  rw [patsV_app, List.take_append_of_le_length (by rw [patsV_len]; omega), List.take_of_length_le (by rw [patsV_len]; omega)] at this
  exact this
theorem own4_new (w : World) : (w.alloc (.cells #[] 36)).ownsRow w.heap.size 36 4 (.slice (some ⟨w.heap.size, 0, none⟩) 0 0) 0 (patsV []) :=
  ⟨rfl, Or.inr ⟨w.heap.size, 0, #[], rfl, Nat.le_refl _, Array.getElem?_push_size, Nat.le_refl _, by unfold maxLen; omega, rfl, rfl⟩⟩
theorem infoPt : (Tryd.prog.info? 36).map (fun i => (i.zero, i.size, i.bytes)) = some (some (.agg #[.int .i32 0, .int .i32 0, .int .u8 0, .int .u8 0]), 4, 12) := by kernel_rfl
def markP : Pat := ⟨77, 0, 7#8, 0#8⟩
theorem markP_l : patL markP = [.int .i32 77, .int .i32 0, .int .u8 7, .int .u8 0] := rfl
end Go.Proofs.YthcdcbibbfdjmaaDoor
