/- Rows of cells in memory. -/
import Derived.Test.YtkllilehdpdbdaaGreatDoorDfO
import Derived.Test.YtkllilehdpdbdaaGreatDoorStyO
namespace Go.Proofs.YtkllilehdpdbdaaGreatDoor
open Go.RowKit Go.Sort
set_option linter.unusedVariables false
set_option linter.unusedSimpArgs false

def celV (c : Cel) : List Value := [.string c.text, .int .i8 c.wide, .int .i32 c.st.fg, .int .i32 c.st.bg, .int .u8 (bI c.st.at_)]
def celsV (l : List Cel) : List Value := l.flatMap celV
theorem celsV_cons (a : Cel) (r : List Cel) : celsV (a :: r) = celV a ++ celsV r := by unfold celsV; exact List.flatMap_cons ..
theorem celsV_app (a b : List Cel) : celsV (a ++ b) = celsV a ++ celsV b := by unfold celsV; exact List.flatMap_append
theorem celsV_len (l : List Cel) : (celsV l).length = l.length * 5 := by
  induction l with
  | nil => rfl
  | cons a l ih => rw [celsV_cons, List.length_append, ih, List.length_cons]; simp [celV]; omega
theorem celsV_drop (l : List Cel) : ∀ k, celsV (l.drop k) = (celsV l).drop (k * 5) := by
  induction l with
  | nil => intro k; simp [celsV]
  | cons a l ih =>
    intro k
    cases k with
    | zero => simp
    | succ k =>
      rw [List.drop_succ_cons, ih, celsV_cons, show (k + 1) * 5 = 5 + k * 5 by omega, ← List.drop_drop]
      rfl
theorem celsV_take (l : List Cel) : ∀ k, celsV (l.take k) = (celsV l).take (k * 5) := by
  induction l with
  | nil => intro k; simp [celsV]
  | cons a l ih =>
    intro k
    cases k with
    | zero => simp [celsV]
    | succ k =>
      rw [List.take_succ_cons, celsV_cons, ih, celsV_cons, show (k + 1) * 5 = 5 + k * 5 by omega, List.take_add]
      rfl
theorem over0 (s : Sty) (W : World) : Calls Tryz.prog 87 #[styV s.fg s.bg s.at_, .slice none 0 0] W fun e w' => e = .returned (styV (countS s).fg (countS s).bg (countS s).at_) ∧ Below W.heap.size W w' :=
  st_Over s none 0 [] W (fun h => absurd rfl h) (by simp)
structure C5 (w : World) (b : Nat) (x0 x1 x2 x3 x4 : Value) : Prop where
  c0 : w.cell? ⟨b, 0, none⟩ = some x0
  c1 : w.cell? ⟨b, 1, none⟩ = some x1
  c2 : w.cell? ⟨b, 2, none⟩ = some x2
  c3 : w.cell? ⟨b, 3, none⟩ = some x3
  c4 : w.cell? ⟨b, 4, none⟩ = some x4
theorem C5.keep {w w' : World} {B b : Nat} {x0 x1 x2 x3 x4 : Value} (h : C5 w b x0 x1 x2 x3 x4) (hb : Below B w w') (hB : b < B) : C5 w' b x0 x1 x2 x3 x4 :=
  ⟨(hb.cell (p := ⟨b, 0, none⟩) hB).trans h.c0, (hb.cell (p := ⟨b, 1, none⟩) hB).trans h.c1, (hb.cell (p := ⟨b, 2, none⟩) hB).trans h.c2, (hb.cell (p := ⟨b, 3, none⟩) hB).trans h.c3, (hb.cell (p := ⟨b, 4, none⟩) hB).trans h.c4⟩
theorem C5.lt {w : World} {b : Nat} {x0 x1 x2 x3 x4 : Value} (h : C5 w b x0 x1 x2 x3 x4) : b < w.heap.size := block_lt_of_cell h.c0
theorem C5.regrown {w : World} {b : Nat} {x0 x1 x2 x3 x4 : Value} (h : C5 w b x0 x1 x2 x3 x4) (d : Nat) (os : Array Obj) : C5 (grow (redrawn w d) os) b x0 x1 x2 x3 x4 := h.keep (below_regrown w d os) h.lt
structure C2 (w : World) (b : Nat) (x0 x1 : Value) : Prop where
  c0 : w.cell? ⟨b, 0, none⟩ = some x0
  c1 : w.cell? ⟨b, 1, none⟩ = some x1
theorem C2.keep {w w' : World} {B b : Nat} {x0 x1 : Value} (h : C2 w b x0 x1) (hb : Below B w w') (hB : b < B) : C2 w' b x0 x1 :=
  ⟨(hb.cell (p := ⟨b, 0, none⟩) hB).trans h.c0, (hb.cell (p := ⟨b, 1, none⟩) hB).trans h.c1⟩
theorem C2.lt {w : World} {b : Nat} {x0 x1 : Value} (h : C2 w b x0 x1) : b < w.heap.size := block_lt_of_cell h.c0
theorem C2.regrown {w : World} {b : Nat} {x0 x1 : Value} (h : C2 w b x0 x1) (d : Nat) (os : Array Obj) : C2 (grow (redrawn w d) os) b x0 x1 := h.keep (below_regrown w d os) h.lt
theorem cel_at {w : World} {B : Nat} {A : Option Addr} {a : Cel} {r : List Cel} (h : Sees w B A (celsV (a :: r))) : ∃ ad, A = some ad ∧ ad.block < B ∧ w.cell? ad = some (.string a.text) ∧ w.cell? ⟨ad.block, ad.off + 1, none⟩ = some (.int .i8 a.wide) ∧ w.cell? ⟨ad.block, ad.off + 2, none⟩ = some (.int .i32 a.st.fg) ∧ w.cell? ⟨ad.block, ad.off + 3, none⟩ = some (.int .i32 a.st.bg) ∧ w.cell? ⟨ad.block, ad.off + 4, none⟩ = some (.int .u8 (bI a.st.at_)) := by
  rw [celsV_cons] at h
  obtain ⟨ad, e, hb, hc⟩ := h (by simp [celV])
  refine ⟨ad, e, hb, ?_, ?_, ?_, ?_, ?_⟩
  · have := hc 0 (.string a.text) rfl
    rwa [show ad.add 0 = ad by unfold Addr.add; rw [if_pos rfl]] at this
  · rw [add_ltt ad 1 (by decide)]; exact hc 1 _ rfl
  · rw [add_ltt ad 2 (by decide)]; exact hc 2 _ rfl
  · rw [add_ltt ad 3 (by decide)]; exact hc 3 _ rfl
  · rw [add_ltt ad 4 (by decide)]; exact hc 4 _ rfl

theorem cel_two {w W : World} {ad : Addr} {B : Nat} {a b : Cel} {r : List Cel} (h : Sees w B (some ad) (celsV (a :: b :: r))) (hb : Below w.heap.size w W) (hab : ad.block < w.heap.size) : W.cell? ⟨ad.block, ad.off + 5, none⟩ = some (.string b.text) ∧ W.cell? ⟨ad.block, ad.off + 5 + 1, none⟩ = some (.int .i8 b.wide) ∧ W.cell? ⟨ad.block, ad.off + 5 + 2, none⟩ = some (.int .i32 b.st.fg) ∧ W.cell? ⟨ad.block, ad.off + 5 + 3, none⟩ = some (.int .i32 b.st.bg) ∧ W.cell? ⟨ad.block, ad.off + 5 + 4, none⟩ = some (.int .u8 (bI b.st.at_)) := by
  rw [celsV_cons, celsV_cons] at h
  obtain ⟨ad', e, _, hc⟩ := h (by simp [celV])
  cases e
  have g : ∀ k, k ≠ 0 → (⟨ad.block, ad.off + k, none⟩ : Addr) = ad.add k := fun k hk => add_ltt ad k hk
  refine ⟨?_, ?_, ?_, ?_, ?_⟩
  · rw [g 5 (by decide)]; exact (hb.cell (p := ad.add 5) (by rw [add_blk]; exact hab)).trans (hc 5 _ rfl)
  · rw [Nat.add_assoc, g (5 + 1) (by decide)]; exact (hb.cell (p := ad.add 6) (by rw [add_blk]; exact hab)).trans (hc 6 _ rfl)
  · rw [Nat.add_assoc, g (5 + 2) (by decide)]; exact (hb.cell (p := ad.add 7) (by rw [add_blk]; exact hab)).trans (hc 7 _ rfl)
  · rw [Nat.add_assoc, g (5 + 3) (by decide)]; exact (hb.cell (p := ad.add 8) (by rw [add_blk]; exact hab)).trans (hc 8 _ rfl)
  · rw [Nat.add_assoc, g (5 + 4) (by decide)]; exact (hb.cell (p := ad.add 9) (by rw [add_blk]; exact hab)).trans (hc 9 _ rfl)

theorem Sees.dropV {w : World} {B : Nat} {ad : Addr} {xs : List Value} (k : Nat) (h : Sees w B (some ad) xs) : Sees w B (some (ad.add k)) (xs.drop k) := fun hne => by
  obtain ⟨ad', e, hb, hc⟩ := h (fun e => hne (by rw [e]; simp))
  cases e
  refine ⟨_, rfl, by rw [add_blk]; exact hb, fun j u hj => ?_⟩
  rw [add_plus]
  refine hc (k + j) u ?_
  rw [List.getElem?_drop] at hj
  exact hj
theorem Sees.takeV {w : World} {B : Nat} {A : Option Addr} {xs : List Value} (k : Nat) (h : Sees w B A xs) : Sees w B A (xs.take k) := fun hne => by
  obtain ⟨ad, e, hb, hc⟩ := h (fun e => hne (by rw [e]; simp))
  refine ⟨ad, e, hb, fun j u hj => hc j u ?_⟩
  rw [List.getElem?_take] at hj
  split at hj
  · exact hj
  · cases hj
/-- the cells from the k-th on, in a slice that was cut there -/
theorem sees_cut {w : World} {B : Nat} {ad : Addr} {l : List Cel} (k : Nat) (p : Prop) [Decidable p] (h : Sees w B (some ad) (celsV l)) (hp : p → l.length ≤ k) : Sees w B (if p then some ad else some (ad.add (k * 5))) (celsV (l.drop k)) := by
  by_cases c : p
  · rw [List.drop_eq_nil_of_le (hp c)]
    exact Sees.nil _ _ _
  · rw [if_neg c, celsV_drop]
    exact h.dropV _
end Go.Proofs.YtkllilehdpdbdaaGreatDoor
