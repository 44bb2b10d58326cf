/- Shorter pauses: the plain part and the row that is written (plain; memory). -/
import Derived.Test.YtmaofighbpnbiaaGreatDoorYTqK
import Derived.Test.YtmaofighbpnbiaaGreatDoorYTpR
namespace Go.Proofs.YtmaofighbpnbiaaGreatDoor
open Go Go.RowKit Go.Sort
set_option linter.unusedVariables false
set_option linter.unusedSimpArgs false
section
def sqA (most : Int) : Int → Int → List FA → List FA
 | _, _, [] => []
 | a, w, x :: l => ⟨a + min most (x.at_ - w), x.b⟩ :: sqA most (a + min most (x.at_ - w)) x.at_ l
def atE (most : Int) : Int → Int → List FA → Int
 | a, _, [] => a
 | a, w, x :: l => atE most (a + min most (x.at_ - w)) x.at_ l
def wasE : Int → List FA → Int
 | w, [] => w
 | _, x :: l => wasE x.at_ l
theorem sqA_app (most : Int) : ∀ (l m : List FA) (a w : Int), sqA most a w (l ++ m) = sqA most a w l ++ sqA most (atE most a w l) (wasE w l) m
 | [], m, a, w => rfl
 | x :: l, m, a, w => by rw [List.cons_append, sqA, sqA, sqA_app most l m, atE, wasE, List.cons_append]
theorem atE_app (most : Int) : ∀ (l m : List FA) (a w : Int), atE most a w (l ++ m) = atE most (atE most a w l) (wasE w l) m
 | [], m, a, w => rfl
 | x :: l, m, a, w => by rw [List.cons_append, atE, atE_app most l m, atE, wasE]
theorem wasE_app : ∀ (l m : List FA) (w : Int), wasE w (l ++ m) = wasE (wasE w l) m
 | [], m, w => rfl
 | x :: l, m, w => by rw [List.cons_append, wasE, wasE_app l m, wasE]
theorem sqA_len (most : Int) : ∀ (l : List FA) (a w : Int), (sqA most a w l).length = l.length
 | [], _, _ => rfl
 | x :: l, a, w => by rw [sqA, List.length_cons, sqA_len most l, List.length_cons]
theorem sqA_frms (most : Int) : ∀ (l : List FA) (a w : Int), frms (sqA most a w l) = sqF most a w (frms l)
 | [], _, _ => rfl
 | x :: l, a, w => by
  have := sqA_frms most l (a + min most (x.at_ - w)) x.at_
  unfold frms at *
  rw [sqA, List.map_cons, this, List.map_cons, sqF]
  rfl
theorem sqA_flat (most : Int) : ∀ (l : List FA) (a w : Int), flatB (sqA most a w l) = flatB l
 | [], _, _ => rfl
 | x :: l, a, w => by
  have := sqA_flat most l (a + min most (x.at_ - w)) x.at_
  unfold flatB at *
  rw [sqA, List.flatMap_cons, this, List.flatMap_cons]
theorem sq_bounds (most : Int) (h0 : 0 ≤ most) : ∀ (l : List FA) (a w : Int), 0 ≤ a → a ≤ w → w ≤ 1099511627776 → timedF w (frms l) = true → 0 ≤ atE most a w l ∧ atE most a w l ≤ wasE w l ∧ wasE w l ≤ 1099511627776
 | [], a, w, a0, aw, wm, _ => ⟨a0, aw, wm⟩
 | x :: l, a, w, a0, aw, wm, ht => by
  have ht : timedF w (FA.frm x :: frms l) = true := ht
  rw [timedF, Bool.and_eq_true] at ht
  have t1 := of_decide_eq_true ht.1
  have t1 : w ≤ x.at_ ∧ x.at_ ≤ 1099511627776 := t1
  rw [atE, wasE]
  exact sq_bounds most h0 l _ _ (by omega) (by omega) (by omega) ht.2
def sqK (most : Int) (L : List FA) (k : Nat) : List FA := sqA most 0 0 (L.take k) ++ L.drop k
theorem sqK_zero (most : Int) (L : List FA) : sqK most L 0 = L := by unfold sqK; rw [List.take_zero, List.drop_zero]; rfl
theorem sqK_all (most : Int) (L : List FA) : sqK most L L.length = sqA most 0 0 L := by unfold sqK; rw [List.take_length, List.drop_length, List.append_nil]
theorem sqK_len (most : Int) (L : List FA) (k : Nat) : (sqK most L k).length = L.length := by
 unfold sqK
 rw [List.length_append, sqA_len, ← List.length_append, List.take_append_drop]
theorem sqK_at (most : Int) (L : List FA) (k : Nat) (hk : k < L.length) : sqK most L k = sqA most 0 0 (L.take k) ++ L[k] :: L.drop (k + 1) := by unfold sqK; rw [← List.drop_eq_getElem_cons hk]
theorem sqK_next (most : Int) (L : List FA) (k : Nat) (hk : k < L.length) : sqK most L (k + 1) = sqA most 0 0 (L.take k) ++ ⟨atE most 0 0 (L.take k) + min most ((L[k]).at_ - wasE 0 (L.take k)), (L[k]).b⟩ :: L.drop (k + 1) := by
 unfold sqK
 rw [take_succ_get L k hk, sqA_app, List.append_assoc]
 rfl
theorem ends_next (most : Int) (L : List FA) (k : Nat) (hk : k < L.length) : atE most 0 0 (L.take (k + 1)) = atE most 0 0 (L.take k) + min most ((L[k]).at_ - wasE 0 (L.take k)) ∧ wasE 0 (L.take (k + 1)) = (L[k]).at_ := by
 rw [take_succ_get L k hk, atE_app, wasE_app]
 exact ⟨rfl, rfl⟩
theorem frV_flat_len (L : List FA) : (L.flatMap frV).length = L.length * 2 := frV_len L
theorem cp_set (g : Nat) (M R : List FA) (x : FA) (t : Int) : ((cpF g 0 0 (M ++ x :: R)).flatMap frV).set (M.length * 2) (.int .i64 t) = (cpF g 0 0 (M ++ ⟨t, x.b⟩ :: R)).flatMap frV := by
 rw [cpF_app, cpF_app, cpF, cpF, List.flatMap_append, List.flatMap_append, List.flatMap_cons, List.flatMap_cons]
 have e : M.length * 2 = ((cpF g 0 0 M).flatMap frV).length + 0 := by rw [frV_len, cpF_len, Nat.add_zero]
 rw [e, List.set_append_right _ _ (by omega), Nat.add_zero, Nat.sub_self]
 simp only [frV, List.cons_append, List.set_cons_zero, Int.add_zero]
structure SqAt (W : World) (g : Nat) (most : Int) (L : List FA) (k : Nat) (v : Value) (w : World) : Prop where
 own : w.ownsRow W.heap.size 47 2 v L.length ((cpF g 0 0 (sqK most L k)).flatMap frV)
 row : BRow w g (flatB L).length (flatB L)
 bel : Below W.heap.size W w
 gn : W.heap.size ≤ g
theorem SqAt.init {W W1 w : World} {g : Nat} {L : List FA} {v : Value} (most : Int) (hb : Below W.heap.size W W1) (h : CopAt W1.heap.size W1 g (flatB L).length [] 0 L v w) : SqAt W g most L 0 v w := by
 have o := h.own
 rw [List.nil_append, cpF_len] at o
 refine ⟨?_, h.row, hb.trans (h.bel.mono hb.size), Nat.le_trans hb.size h.gn⟩
 rw [sqK_zero]
 exact own_low o hb.size
theorem SqAt.form {W w : World} {g : Nat} {most : Int} {L : List FA} {k : Nat} {v : Value} (h : SqAt W g most L k v w) (hk : 0 < L.length) : ∃ r c, v = .slice (some ⟨r, 0, none⟩) L.length c ∧ W.heap.size ≤ r ∧ r < w.heap.size ∧ r ≠ g := by
 rcases h.own.2 with ⟨_, z⟩ | ⟨r, c, cur, e, hb, hg, _⟩
 ·omega
 ·refine ⟨r, c, e, hb, (Array.getElem?_eq_some_iff.1 hg).1, fun z => ?_⟩
  obtain ⟨_, cur2, e2, _⟩ := h.row
  rw [z, e2] at hg
  cases hg
theorem SqAt.next {W w : World} {g : Nat} {most : Int} {L : List FA} {k r c : Nat} (h : SqAt W g most L k (.slice (some ⟨r, 0, none⟩) L.length c) w) (hk : k < L.length) (t : Int) (ht : t = atE most 0 0 (L.take k) + min most ((L[k]).at_ - wasE 0 (L.take k))) (hr : W.heap.size ≤ r) (ne : r ≠ g) : SqAt W g most L (k + 1) (.slice (some ⟨r, 0, none⟩) L.length c) (w.setCell ⟨r, k * 2, none⟩ (.int .i64 t)) := by
 refine ⟨?_, h.row.keep (heap_setCell_other _ _ _ _ (fun z => ne z.symm)), h.bel.setCell (p := ⟨r, k * 2, none⟩) hr _, h.gn⟩
 have o := (h.own.stored (k * 2) (.int .i64 t)).1
 have e := cp_set g (sqA most 0 0 (L.take k)) (L.drop (k + 1)) (L[k]) t
 rw [sqA_len, List.length_take, Nat.min_eq_left (Nat.le_of_lt hk)] at e
 rw [sqK_at most L k hk, e] at o
 rw [sqK_next most L k hk, ← ht]
 exact o
theorem SqAt.below {W w w' : World} {g : Nat} {most : Int} {L : List FA} {k : Nat} {v : Value} (h : SqAt W g most L k v w) (hb : Below w.heap.size w w') : SqAt W g most L k v w' := ⟨own_callF h.own hb, h.row.keep (hb.block g h.row.lt), h.bel.trans (hb.mono h.bel.size), h.gn⟩
theorem SqAt.cell {W w : World} {g : Nat} {most : Int} {L : List FA} {k r c : Nat} (h : SqAt W g most L k (.slice (some ⟨r, 0, none⟩) L.length c) w) (hk : k < L.length) : (∃ u, w.cell? ⟨r, k * 2, none⟩ = some u) ∧ w.frozen? ⟨r, k * 2, none⟩ = false := by
 refine ⟨?_, h.own.frozenAt _⟩
 have e := h.own.cellAt (k * 2) (by omega)
 rw [e]
 have l : ((cpF g 0 0 (sqK most L k)).flatMap frV).length = L.length * 2 := by rw [frV_len, cpF_len, sqK_len]
 exact ⟨_, List.getElem?_eq_getElem (by rw [l]; omega)⟩
def SqR (W : World) (l : List Frm) (most : Int) (e : Ending) (w' : World) : Prop := ∃ v, e = .returned (.tuple #[v, .int .i64 (squeezeT l most).2]) ∧ CpyR W w' v (squeezeT l most).1
theorem sqR_no {W w' : World} {l : List Frm} {most k : Int} (e : squeezeT l most = ([], k)) (hb : Below W.heap.size W w') : SqR W l most (.returned (.tuple #[.slice none 0 0, .int .i64 k])) w' := ⟨_, by rw [e], by rw [e]; exact ⟨hb, Or.inl ⟨rfl, rfl⟩⟩⟩
theorem sqR_yes {W w' : World} {L : List FA} {most : Int} {v : Value} {g : Nat} (ck : checkT (frms L) = 0) (h0 : 0 ≤ most) (h : SqAt W g most L L.length v w') (ok : ∀ x ∈ L, Byt x.b.bs) : SqR W (frms L) most (.returned (.tuple #[v, .int .i64 0])) w' := by
 have e : squeezeT (frms L) most = (sqF most 0 0 (frms L), 0) := by unfold squeezeT; rw [if_neg (by rw [ck]; simp), if_neg (by omega)]
 obtain ⟨p1, p2, p3⟩ := check_parts ck
 refine ⟨v, by rw [e], ?_⟩
 rw [e]
 have o := h.own
 have lm : (cpF g 0 0 (sqA most 0 0 L)).length = L.length := by rw [cpF_len, sqA_len]
 rw [sqK_all] at o
 refine ⟨h.bel, Or.inr ⟨g, sqA most 0 0 L, h.gn, by rw [lm]; exact o, by rw [sqA_flat]; exact h.row, sqA_frms most L 0 0, fun x m => ?_⟩⟩
 have m2 : FA.frm x ∈ sqF most 0 0 (frms L) := by rw [← sqA_frms]; exact List.mem_map_of_mem m
 obtain ⟨j, hj, ej⟩ := List.mem_iff_getElem.1 m2
 have b := timed_mono _ 0 (sqF_timed most h0 (frms L) 0 0 (Int.le_refl _) p3) j j hj (Nat.le_refl _)
 have a := long_each (l := sqF most 0 0 (frms L)) (by rw [sqF_long]; exact p1) _ m2
 rw [ej] at b
 refine ⟨?_, a, b.2⟩
 have each : ∀ (l : List FA) (a w : Int), (∀ x ∈ l, Byt x.b.bs) → ∀ x ∈ sqA most a w l, Byt x.b.bs := by
  intro l
  induction l with
  | nil => intro a w _ x m; cases m
  | cons y l ih =>
   intro a w hh x m
   rw [sqA] at m
   rcases List.mem_cons.1 m with rfl | m
   ·exact hh y List.mem_cons_self
   ·exact ih _ _ (fun x m => hh x (List.mem_cons_of_mem _ m)) x m
 exact each L 0 0 ok x m
end
end Go.Proofs.YtmaofighbpnbiaaGreatDoor
