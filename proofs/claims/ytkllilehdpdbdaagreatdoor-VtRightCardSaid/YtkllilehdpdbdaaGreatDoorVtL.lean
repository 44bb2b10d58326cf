/- What is shown stays right: sequences, bytes (plain). -/
import Derived.Test.YtkllilehdpdbdaaGreatDoorVtJ
import Derived.Test.YtkllilehdpdbdaaGreatDoorVtPl
namespace Go.Proofs.YtkllilehdpdbdaaGreatDoor
open Go Go.RowKit Go.Sort
set_option linter.unusedVariables false
set_option linter.unusedSimpArgs false
theorem in_colN (c n : Int) (h : inSty c) : inSty (colN c n) := by
  unfold colN
  split
  · exact Or.inr (Or.inl ⟨by omega, by omega⟩)
  · split
    · exact Or.inr (Or.inl ⟨by omega, by omega⟩)
    · split
      · exact Or.inl rfl
      · exact h
theorem count_in {s : Sty} (h1 : inSty s.fg) (h2 : inSty s.bg) : countS s = s := by
  cases s
  unfold countS
  simp only at h1 h2 ⊢
  rw [inSty_pl_eq _ h1, inSty_pl_eq _ h2]
theorem applyF_in : ∀ (f : Nat) (s : Sty) (l : List Int), inSty s.fg → inSty s.bg → inSty (applyF f s l).fg ∧ inSty (applyF f s l).bg
  | 0, s, l, h1, h2 => by cases l <;> exact ⟨h1, h2⟩
  | f + 1, s, [], h1, h2 => ⟨h1, h2⟩
  | f + 1, s, n :: r, h1, h2 => by
    unfold applyF
    split
    · exact applyF_in f _ _ (Or.inl rfl) (Or.inl rfl)
    · split
      · cases e : richL r with
        | none => exact ⟨h1, h2⟩
        | some q =>
          obtain ⟨c, k⟩ := q
          exact applyF_in f _ _ (rich_len e).2.2.1 h2
      · split
        · cases e : richL r with
          | none => exact ⟨h1, h2⟩
          | some q =>
            obtain ⟨c, k⟩ := q
            exact applyF_in f _ _ h1 (rich_len e).2.2.1
        · exact applyF_in f _ _ (in_colN _ _ h1) (in_colN _ _ h2)
theorem applyL_count (s : Sty) (l : List Int) : countS (applyL s l) = applyL s l := by
  unfold applyL
  split
  · rfl
  · obtain ⟨a, b⟩ := applyF_in l.length (countS s) l (inSty_pl _) (inSty_pl _)
    exact count_in a b
theorem good_sequence {t : Trm} (h : Good t) (f : Fine t) (b : Int) : Good (sequenceT t b) := by
  have g0 : Good { t with opn := -1 } := good_opn h _
  have f0 : Fine { t with opn := -1 } := fine_opn f _
  unfold sequenceT
  simp only
  split
  · exact g0
  · split
    · exact good_modes _ _ g0
    · split
      · exact g0
      · split
        · exact g0.same rfl rfl rfl (applyL_count _ _) h.sv
        · split
          · exact good_report g0 _
          · split
            · split
              · exact good_reply g0 _
              · exact g0
            · split
              · split
                · exact g0.same rfl rfl rfl h.st h.sv
                · exact g0
              · split
                · rename_i p
                  exact good_act g0 f0 (pos_some f0 p) b _
                · exact g0
theorem good_runes : ∀ (l : List Int) {t : Trm}, Good t → Fine t → OpnOk t → OpnW t → Good (runesT t l) ∧ OpnW (runesT t l)
  | [], t, h, f, o, w => ⟨h, w⟩
  | r :: l, t, h, f, o, w => by
    have a := good_rune h f o w r
    have q := run_rune f o r
    exact good_runes l a.1 q.fine q.opn a.2
theorem good_takeG {t : Trm} (L : Live t) (h : Good t) (w : OpnW t) (b : Int) : Good (takeG t b) ∧ OpnW (takeG t b) := by
  unfold takeG
  exact good_runes _ (h.same rfl rfl rfl h.st h.sv) (L.fine.still rfl rfl rfl) (L.opn.imp id (fun o => o.same ⟨rfl, rfl, rfl, rfl⟩)) w
theorem good_takeE {t : Trm} (L : Live t) (o : t.opn = -1) (h : Good t) (b : Int) : Good (takeE t b) ∧ OpnW (takeE t b) := by
  have f := L.fine
  have f0 : Fine { t with state := 0 } := f.still rfl rfl rfl
  have g0 : Good { t with state := 0 } := h.same rfl rfl rfl h.st h.sv
  have L0 : Live { t with state := 0 } := ⟨f0, ⟨Int.le_refl 0, by show (0 : Int) ≤ 7; decide, L.st.kept⟩, Or.inl o, fun _ => o, L.reps⟩
  unfold takeE
  split
  · exact ⟨h.same rfl rfl rfl h.st h.sv, Or.inl o⟩
  · split
    · exact ⟨good_control h f b, Or.inl (control_opn t b)⟩
    · split
      · exact ⟨h, Or.inl o⟩
      · split
        · exact good_takeG L0 g0 (Or.inl o) b
        · split
          · split
            · exact ⟨h.same rfl rfl rfl h.st h.sv, Or.inl o⟩
            · exact ⟨good_sequence g0 f0 b, Or.inl ((ho_sequence f0 b).off rfl)⟩
          · split
            · exact ⟨h.same rfl rfl rfl h.st h.sv, Or.inl o⟩
            · split
              · exact ⟨h.same rfl rfl rfl h.st h.sv, Or.inl o⟩
              · exact ⟨good_escaped h f b, Or.inl (off_escaped (n := t.held.size) f ⟨o, L.reps, Nat.le_refl _⟩ b).1⟩
theorem good_take {t : Trm} (L : Live t) (h : Good t) (w : OpnW t) (b : Int) : Good (takeT t b) ∧ OpnW (takeT t b) := by
  have gt := good_titled h
  have tl := titled_same t
  unfold takeT
  split
  · exact good_takeG L h w b
  · rename_i s0
    have o : t.opn = -1 := L.rest s0
    have gs : ∀ s : Int, Good { t with state := s } := fun s => h.same rfl rfl rfl h.st h.sv
    have ls : ∀ s : Int, 0 ≤ s → s ≤ 7 → Live { t with state := s } := fun s a c => ⟨L.fine.still rfl rfl rfl, ⟨a, c, L.st.kept⟩, Or.inl o, fun _ => o, L.reps⟩
    split
    · exact ⟨gs 0, Or.inl o⟩
    · split
      · split
        · exact good_takeE (ls 1 (by decide) (by decide)) o (gs 1) b
        · split
          · exact ⟨gt.same rfl rfl rfl gt.st gt.sv, Or.inl (tl.1.trans o)⟩
          · exact ⟨gs 0, Or.inl o⟩
      · split
        · refine ⟨good_within h b, Or.inl ?_⟩
          unfold withinT
          split
          · exact o
          · split
            · exact o
            · split
              · exact tl.1.trans o
              · split <;> exact o
        · exact good_takeE L o h b
theorem good_feed : ∀ (l : List Int) {t : Trm}, Live t → Good t → OpnW t → (∀ b ∈ l, 0 ≤ b ∧ b < 256) → Good (feedT t l) ∧ OpnW (feedT t l)
  | [], t, L, h, w, r => ⟨h, w⟩
  | b :: l, t, L, h, w, r => by
    have a := good_take L h w b
    exact good_feed l (live_take L b (r b (by simp))).1 a.1 a.2 (fun x hx => r x (by simp [hx]))
theorem good_fed (w h : Int) (w0 : 0 ≤ w) (w1 : w ≤ 4096) (h0 : 0 ≤ h) (h1 : h ≤ 4096) (ar : w * h ≤ 1048576) (l : List Int) (r : ∀ b ∈ l, 0 ≤ b ∧ b < 256) : Good (feedT (newV w h) l) :=
  (good_feed l (live_new w h w0 w1 h0 h1 ar) (good_new w h) (Or.inl rfl) r).1
end Go.Proofs.YtkllilehdpdbdaaGreatDoor
