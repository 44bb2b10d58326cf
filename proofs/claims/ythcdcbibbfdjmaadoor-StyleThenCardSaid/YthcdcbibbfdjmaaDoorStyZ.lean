/- There and back: patches and their words (plain). -/
import Derived.Test.YthcdcbibbfdjmaaDoorStyY
namespace Go.Proofs.YthcdcbibbfdjmaaDoor
open Go.RowKit
set_option linter.unusedVariables false

theorem told_ok (p : Pat) : okP (toldP p) := by
  have c : ∀ x : Int, cnt x = 0 ∨ colP (cnt x) := by
    intro x
    unfold cnt rightB colP
    split
    · rename_i h; rw [decide_eq_true_iff] at h; omega
    · exact Or.inl rfl
  refine ⟨c _, c _, fun i hi => ?_⟩
  show (p.add.getLsbD i && (p.drop &&& ~~~p.add).getLsbD i) = false
  rw [BitVec.getLsbD_and, BitVec.getLsbD_not]
  cases p.add.getLsbD i <;> simp
theorem colP_cnt (c : Int) (h : c = 0 ∨ colP c) : cnt c = c ∧ rightB c = true := by
  have r : rightB c = true := by unfold rightB; rw [decide_eq_true_iff]; rcases h with h | h | h | h <;> omega
  exact ⟨by unfold cnt; rw [if_pos r], r⟩
theorem ok_told (q : Pat) (h : okP q) : toldP q = q := by
  obtain ⟨h1, h2, h3⟩ := h
  have e : q.drop &&& ~~~q.add = q.drop := by
    apply b8_ext
    intro i hi
    have := h3 i hi
    rw [BitVec.getLsbD_and, BitVec.getLsbD_not]
    cases ha : q.add.getLsbD i <;> cases hd : q.drop.getLsbD i <;> simp_all
  unfold toldP
  rw [(colP_cnt _ h1).1, (colP_cnt _ h2).1, e]
theorem ok_right (q : Pat) (h : okP q) : rightP q = true := by
  unfold rightP
  rw [(colP_cnt _ h.1).2, (colP_cnt _ h.2.1).2]
  rfl

theorem bit_zero {x y : B8} (h : ¬ x &&& y ≠ 0) (i : Nat) : (x.getLsbD i && y.getLsbD i) = false := by
  have z : x &&& y = 0 := by simpa using h
  have := congrArg (fun b : B8 => b.getLsbD i) z
  simp only [BitVec.getLsbD_and] at this
  rw [this]
  simp

theorem att_off (x : ByteArray) (i : Nat) (hi : i < 8) : ((attB x).getLsbD i && (offB x).getLsbD i) = false := by
  by_cases h : attB x = 0
  · rw [h]; simp
  · have e : ∃ j : Fin 8, x = atN j.val := by
      cases f : (List.range 8).find? (fun i => decide (x = atN i)) with
      | none => unfold attB at h; rw [f] at h; exact absurd rfl h
      | some j =>
        have h1 := List.mem_of_find?_eq_some f
        have h2 := List.find?_some f
        exact ⟨⟨j, by simpa using h1⟩, by simpa using h2⟩
    obtain ⟨j, rfl⟩ := e
    rw [(att_names j).2.1]
    simp

theorem par_ok : ∀ (n : Nat) (ws : List ByteArray) (p q : Pat), ws.length ≤ n → okP p → parL p ws = .ok q → okP q := by
  intro n
  induction n with
  | zero =>
    intro ws p q hn hp h
    have : ws = [] := List.eq_nil_of_length_eq_zero (by omega)
    subst this
    unfold parL at h
    cases h
    exact hp
  | succ n ih =>
    intro ws p q hn hp h
    cases ws with
    | nil => unfold parL at h; cases h; exact hp
    | cons x r =>
      simp only [List.length_cons] at hn
      obtain ⟨h1, h2, h3⟩ := hp
      have cw : ∀ (s : ByteArray) (c : Int), colW s = some c → c = 0 ∨ colP c := fun s c hc => by
        obtain ⟨a, b⟩ := colW_ne s c hc
        rw [← b]
        unfold cnt rightB colP
        split
        · rename_i g; rw [decide_eq_true_iff] at g; omega
        · exact Or.inl rfl
      unfold parL at h
      split at h
      · split at h
        · cases h
        · rename_i nb
          refine ih r _ q (by omega) ?_ h
          refine ⟨h1, h2, fun i hi => ?_⟩
          have b := bit_zero nb i
          have a := h3 i hi
          have c := att_off x i hi
          simp only [BitVec.getLsbD_or] at b ⊢
          revert a b c
          cases p.add.getLsbD i <;> cases p.drop.getLsbD i <;> cases (attB x).getLsbD i <;> cases (offB x).getLsbD i <;> simp
      · split at h
        · split at h
          · cases h
          · rename_i y r' 
            split at h
            · cases h
            · rename_i c hc
              split at h
              · cases h
              · refine ih r' _ q (by simp only [List.length_cons] at hn; omega) ?_ h
                exact ⟨h1, cw _ _ hc, h3⟩
        · split at h
          · cases h
          · rename_i c hc
            split at h
            · cases h
            · refine ih r _ q (by omega) ?_ h
              exact ⟨cw _ _ hc, h2, h3⟩

theorem parse_ok (s : ByteArray) (q : Pat) (h : parseS s = .ok q) : okP q := by
  unfold parseS at h
  split at h
  · cases h
  · exact par_ok _ _ _ q (Nat.le_refl _) ⟨Or.inl rfl, Or.inl rfl, fun i hi => by simp [emptyP]⟩ h

theorem join_len : ∀ (ws : List (List UInt8)) (m : Nat), (∀ x ∈ ws, x.length ≤ m) → (joinL ws).length ≤ ws.length * (m + 1)
  | [], m, _ => by simp [joinL]
  | [x], m, h => by have := h x (by simp); simp [joinL]; omega
  | x :: y :: r, m, h => by
    have hx := h x (by simp)
    have := join_len (y :: r) m (fun z hz => h z (List.mem_cons_of_mem _ hz))
    show (x ++ 32 :: joinL (y :: r)).length ≤ _
    rw [List.length_append, List.length_cons, List.length_cons, Nat.add_mul]
    omega
theorem names_len : ∀ i : Fin 8, (atN i.val).data.toList.length ≤ 16 ∧ (dropW i.val).data.toList.length ≤ 16 := by decide +kernel
theorem text_words (q : Pat) (h : okP q) : (∀ x ∈ (textL q).map (fun s => s.data.toList), isWord x = true ∧ x.length ≤ 16) ∧ (textL q).length ≤ 19 := by
  obtain ⟨h1, h2, _⟩ := h
  have tw : ∀ c : Int, c ≠ 0 → (c = 0 ∨ colP c) → isWord (textB c).data.toList = true ∧ (textB c).data.toList.length ≤ 16 := fun c hc h => by
    rcases h with h | h
    · exact absurd h hc
    · have a := (text_word c h).2.2.2
      have b := text_size c
      exact ⟨a, by rw [show (textB c).data.toList.length = (textB c).size by simp]; exact b⟩
  have bl : ∀ b : B8, (bitsL b).length ≤ 8 := fun b => by unfold bitsL; exact Nat.le_trans (List.length_filter_le _ _) (by simp)
  constructor
  · intro x hx
    rw [List.mem_map] at hx
    obtain ⟨s, hs, rfl⟩ := hx
    unfold textL at hs
    rw [List.mem_append, List.mem_append, List.mem_append, List.mem_map, List.mem_map] at hs
    rcases hs with ((⟨i, hi, rfl⟩ | ⟨i, hi, rfl⟩) | hs) | hs
    · have a := (bits_lt q.drop).2 i hi
      exact ⟨(att_names ⟨i, a.1⟩).2.2.2.2.2.2, (names_len ⟨i, a.1⟩).2⟩
    · have a := (bits_lt q.add).2 i hi
      exact ⟨(att_names ⟨i, a.1⟩).2.2.2.2.2.1, (names_len ⟨i, a.1⟩).1⟩
    · split at hs
      · cases hs
      · rename_i hc
        rw [List.mem_singleton] at hs
        subst hs
        exact tw _ hc h1
    · split at hs
      · cases hs
      · rename_i hc
        rcases List.mem_cons.1 hs with e | e
        · subst e; exact ⟨by decide +kernel, by decide +kernel⟩
        · rw [List.mem_singleton] at e
          subst e
          exact tw _ hc h2
  · unfold textL
    have a := bl q.drop
    have b := bl q.add
    rw [List.length_append, List.length_append, List.length_append, List.length_map, List.length_map]
    have c : (if q.fg = 0 then ([] : List ByteArray) else [textB q.fg]).length ≤ 1 := by split <;> simp
    have d : (if q.bg = 0 then ([] : List ByteArray) else [onB, textB q.bg]).length ≤ 2 := by split <;> simp
    omega

theorem parse_text (q : Pat) (h : okP q) : parseS (joinB (textL q)) = .ok q ∧ (joinB (textL q)).size ≤ 65536 := by
  obtain ⟨w1, w2⟩ := text_words q h
  have sz : (joinB (textL q)).size ≤ 65536 := by
    unfold joinB
    rw [mkB_size]
    have := join_len ((textL q).map fun s => s.data.toList) 16 (fun x hx => (w1 x hx).2)
    rw [List.length_map] at this
    omega
  refine ⟨?_, sz⟩
  have wd : wordsP (joinB (textL q)) = textL q := by
    unfold joinB
    rw [words_wl, wl_join _ (fun x hx => (w1 x hx).1), List.map_map]
    conv => rhs; rw [← List.map_id (textL q)]
    apply List.map_congr_left
    intro s _
    exact (mkB_data s).symm
  unfold parseS
  rw [if_neg (by omega), wd, par_text q h]

/-- what is written is read as it counts -/
theorem text_back (p : Pat) (t : ByteArray) (h : textS p = some t) : parseS t = .ok (thenP p emptyP) := by
  unfold textS at h
  split at h
  · cases h
    rw [(then_empty p).2]
    exact (parse_text _ (told_ok p)).1
  · cases h
/-- what is read can be written, and is read as the same -/
theorem parse_back (s : ByteArray) (q : Pat) (h : parseS s = .ok q) : ∃ t, textS q = some t ∧ parseS t = .ok q := by
  have o := parse_ok s q h
  refine ⟨joinB (textL q), ?_, ?_⟩
  · unfold textS; rw [if_pos (ok_right q o), ok_told q o]
  · exact (parse_text q o).1
end Go.Proofs.YthcdcbibbfdjmaaDoor
