/- A grid of cells is right, cell by cell; what keeps it right (plain). -/
import Derived.Test.YtkllilehdpdbdaaGreatDoorVtPl
namespace Go.Proofs.YtkllilehdpdbdaaGreatDoor
open Go.RowKit
set_option linter.unusedVariables false
set_option linter.unusedSimpArgs false

/-- a cell by itself -/
structure CelOk (c : Cel) : Prop where
  st : countS c.st = c.st
  w : c.wide = 0 ∧ c.text = zB ∨ c.wide = 1 ∧ oneB c.text = some 1 ∨ c.wide = 2 ∧ oneB c.text = some 2
/-- a single -/
def SingOk (c : Cel) : Prop := countS c.st = c.st ∧ c.wide = 1 ∧ oneB c.text = some 1
theorem SingOk.ok {c : Cel} (h : SingOk c) : CelOk c := ⟨h.1, Or.inr (Or.inl ⟨h.2.1, h.2.2⟩)⟩
/-- cells in rows of w -/
structure Grid (w N : Nat) (g : Nat → Cel) : Prop where
  cell : ∀ i, i < N → CelOk (g i)
  pair : ∀ i, i < N → (g i).wide = 2 → (i + 1) % w ≠ 0 ∧ i + 1 < N ∧ (g (i + 1)).wide = 0 ∧ (g (i + 1)).st = (g i).st
  half : ∀ i, i < N → (g i).wide = 0 → i % w ≠ 0 ∧ (g (i - 1)).wide = 2
theorem Grid.pos {w N : Nat} {g : Nat → Cel} (h : Grid w N g) {i : Nat} (hi : i < N) (h0 : (g i).wide = 0) : 0 < i := by
  have := (h.half i hi h0).1
  rcases Nat.eq_zero_or_pos i with e | e
  · subst e; exfalso; apply this; exact Nat.zero_mod _
  · exact e
/-- no pair goes over the border ahead of i -/
def Cb (N : Nat) (g : Nat → Cel) (i : Nat) : Prop := i < N → (g i).wide ≠ 0
theorem cb_row {w N : Nat} {g : Nat → Cel} (h : Grid w N g) {i : Nat} (m : i % w = 0) : Cb N g i := fun hi h0 => (h.half i hi h0).1 m
theorem cb_end {N : Nat} {g : Nat → Cel} {i : Nat} (m : N ≤ i) : Cb N g i := fun hi => by omega
/-- cells that become singles -/
theorem grid_span {w N : Nat} {g g' : Nat → Cel} (h : Grid w N g) (f e : Nat) (cf : Cb N g f) (ce : Cb N g e) (ho : ∀ i, i < N → ¬ (f ≤ i ∧ i < e) → g' i = g i) (hn : ∀ i, i < N → f ≤ i → i < e → SingOk (g' i)) : Grid w N g' where
  cell := fun i hi => by
    by_cases c : f ≤ i ∧ i < e
    · exact (hn i hi c.1 c.2).ok
    · rw [ho i hi c]; exact h.cell i hi
  pair := fun i hi h2 => by
    by_cases c : f ≤ i ∧ i < e
    · have := (hn i hi c.1 c.2).2.1; omega
    · rw [ho i hi c] at h2 ⊢
      obtain ⟨a, b, d, q⟩ := h.pair i hi h2
      have nf : i + 1 ≠ f := fun z => cf (by omega) (by rw [← z]; exact d)
      have : ¬ (f ≤ i + 1 ∧ i + 1 < e) := by omega
      rw [ho _ b this]
      exact ⟨a, b, d, q⟩
  half := fun i hi h0 => by
    by_cases c : f ≤ i ∧ i < e
    · have := (hn i hi c.1 c.2).2.1; omega
    · rw [ho i hi c] at h0
      have p := h.pos hi h0
      obtain ⟨a, b⟩ := h.half i hi h0
      have ne : i ≠ e := fun z => ce (by omega) (by rw [← z]; exact h0)
      have : ¬ (f ≤ i - 1 ∧ i - 1 < e) := by omega
      rw [ho _ (by omega) this]
      exact ⟨a, b⟩
/-- two cells that become a pair -/
theorem grid_pair {w N : Nat} {g g' : Nat → Cel} (h : Grid w N g) (f : Nat) (hf : f + 1 < N) (hw : (f + 1) % w ≠ 0) (cf : Cb N g f) (ce : Cb N g (f + 2)) (ho : ∀ i, i < N → i ≠ f → i ≠ f + 1 → g' i = g i) (h1 : (g' f).wide = 2) (h2 : oneB (g' f).text = some 2) (h3 : countS (g' f).st = (g' f).st) (h4 : g' (f + 1) = ⟨zB, 0, (g' f).st⟩) : Grid w N g' where
  cell := fun i hi => by
    by_cases c : i = f
    · subst c; exact ⟨h3, Or.inr (Or.inr ⟨h1, h2⟩)⟩
    · by_cases c2 : i = f + 1
      · subst c2; rw [h4]; exact ⟨h3, Or.inl ⟨rfl, rfl⟩⟩
      · rw [ho i hi c c2]; exact h.cell i hi
  pair := fun i hi hh => by
    by_cases c : i = f
    · subst c; rw [h4]; exact ⟨hw, hf, rfl, rfl⟩
    · by_cases c2 : i = f + 1
      · subst c2; rw [h4] at hh; simp at hh
      · rw [ho i hi c c2] at hh ⊢
        obtain ⟨a, b, d, q⟩ := h.pair i hi hh
        have nf : i + 1 ≠ f := fun z => cf (by omega) (by rw [← z]; exact d)
        rw [ho _ b nf (by omega)]
        exact ⟨a, b, d, q⟩
  half := fun i hi hh => by
    by_cases c : i = f
    · subst c; omega
    · by_cases c2 : i = f + 1
      · subst c2; exact ⟨hw, by rw [Nat.add_sub_cancel]; exact h1⟩
      · rw [ho i hi c c2] at hh
        have p := h.pos hi hh
        obtain ⟨a, b⟩ := h.half i hi hh
        have ne : i ≠ f + 2 := fun z => ce (by omega) (by rw [← z]; exact hh)
        rw [ho _ (by omega) (by omega) (by omega)]
        exact ⟨a, b⟩
/-- a pair that goes over a border becomes two singles -/
theorem grid_split {w N : Nat} {g g' : Nat → Cel} (h : Grid w N g) (i : Nat) (hi : i < N) (h0 : (g i).wide = 0) (ho : ∀ j, j < N → j ≠ i → j ≠ i - 1 → g' j = g j) (h1 : SingOk (g' i)) (h2 : SingOk (g' (i - 1))) : Grid w N g' ∧ Cb N g' i ∧ ∀ j, Cb N g j → Cb N g' j := by
  have p := h.pos hi h0
  have hp := (h.half i hi h0).2
  refine ⟨grid_span h (i - 1) (i + 1) (fun _ z => ?_) (fun hj z => ?_) (fun j hj c => ho j hj (by omega) (by omega)) (fun j hj a b => ?_), fun _ z => ?_, fun j cj hj z => ?_⟩
  · omega
  · have := (h.half _ hj z).2
    rw [Nat.add_sub_cancel] at this
    omega
  · have : j = i ∨ j = i - 1 := by omega
    rcases this with rfl | rfl
    · exact h1
    · exact h2
  · have := h1.2.1; omega
  · by_cases c : j = i
    · subst c; have := h1.2.1; omega
    · by_cases c2 : j = i - 1
      · subst c2; have := h2.2.1; omega
      · rw [ho j hj c c2] at z; exact cj hj z
/-- cells move up by k; blanks behind -/
theorem grid_up {w N : Nat} {g g' : Nat → Cel} (h : Grid w N g) (a z k : Nat) (hz : z ≤ N) (ak : a + k ≤ z) (ca : Cb N g a) (ck : Cb N g (a + k)) (cz : Cb N g z)
    (hr : ∀ i, a < i → i < z - k → (i + k) % w ≠ 0 → i % w ≠ 0) (ho : ∀ i, i < N → ¬ (a ≤ i ∧ i < z) → g' i = g i) (hm : ∀ i, a ≤ i → i < z - k → g' i = g (i + k)) (hn : ∀ i, z - k ≤ i → i < z → SingOk (g' i)) : Grid w N g' where
  cell := fun i hi => by
    by_cases c : a ≤ i ∧ i < z
    · by_cases c2 : i < z - k
      · rw [hm i c.1 c2]; exact h.cell _ (by omega)
      · exact (hn i (by omega) c.2).ok
    · rw [ho i hi c]; exact h.cell i hi
  pair := fun i hi h2 => by
    by_cases c : a ≤ i ∧ i < z
    · by_cases c2 : i < z - k
      · rw [hm i c.1 c2] at h2 ⊢
        obtain ⟨p, b, d, q⟩ := h.pair _ (by omega) h2
        have nz : i + k + 1 ≠ z := fun e => cz (by omega) (by rw [← e]; exact d)
        rw [hm (i + 1) (by omega) (by omega), show i + 1 + k = i + k + 1 by omega]
        exact ⟨hr (i + 1) (by omega) (by omega) (by rw [show i + 1 + k = i + k + 1 by omega]; exact p), by omega, d, q⟩
      · have := (hn i (by omega) c.2).2.1; omega
    · rw [ho i hi c] at h2 ⊢
      obtain ⟨p, b, d, q⟩ := h.pair i hi h2
      have nf : i + 1 ≠ a := fun e => ca (by omega) (by rw [← e]; exact d)
      rw [ho _ b (by omega)]
      exact ⟨p, b, d, q⟩
  half := fun i hi h0 => by
    by_cases c : a ≤ i ∧ i < z
    · by_cases c2 : i < z - k
      · rw [hm i c.1 c2] at h0
        have na : i ≠ a := fun e => ck (by omega) (by rw [← e]; exact h0)
        obtain ⟨p, b⟩ := h.half _ (by omega) h0
        rw [hm (i - 1) (by omega) (by omega), show i - 1 + k = i + k - 1 by omega]
        exact ⟨hr i (by omega) c2 p, b⟩
      · have := (hn i (by omega) c.2).2.1; omega
    · rw [ho i hi c] at h0
      have pp := h.pos hi h0
      obtain ⟨p, b⟩ := h.half i hi h0
      have ne : i ≠ z := fun e => cz (by omega) (by rw [← e]; exact h0)
      rw [ho (i - 1) (by omega) (by omega)]
      exact ⟨p, b⟩
/-- cells move down by k; blanks ahead -/
theorem grid_down {w N : Nat} {g g' : Nat → Cel} (h : Grid w N g) (a z k : Nat) (hz : z ≤ N) (ak : a + k ≤ z) (ca : Cb N g a) (ck : Cb N g (z - k)) (cz : Cb N g z)
    (hr : ∀ i, a + k < i → i < z → (i - k) % w ≠ 0 → i % w ≠ 0) (ho : ∀ i, i < N → ¬ (a ≤ i ∧ i < z) → g' i = g i) (hm : ∀ i, a + k ≤ i → i < z → g' i = g (i - k)) (hn : ∀ i, a ≤ i → i < a + k → SingOk (g' i)) : Grid w N g' where
  cell := fun i hi => by
    by_cases c : a ≤ i ∧ i < z
    · by_cases c2 : a + k ≤ i
      · rw [hm i c2 c.2]; exact h.cell _ (by omega)
      · exact (hn i c.1 (by omega)).ok
    · rw [ho i hi c]; exact h.cell i hi
  pair := fun i hi h2 => by
    by_cases c : a ≤ i ∧ i < z
    · by_cases c2 : a + k ≤ i
      · rw [hm i c2 c.2] at h2 ⊢
        obtain ⟨p, b, d, q⟩ := h.pair _ (by omega) h2
        have nz : i + 1 ≠ z := fun e => ck (by omega) (by rw [show z - k = i - k + 1 by omega]; exact d)
        rw [hm (i + 1) (by omega) (by omega), show i + 1 - k = i - k + 1 by omega]
        exact ⟨hr (i + 1) (by omega) (by omega) (by rw [show i + 1 - k = i - k + 1 by omega]; exact p), by omega, d, q⟩
      · have := (hn i c.1 (by omega)).2.1; omega
    · rw [ho i hi c] at h2 ⊢
      obtain ⟨p, b, d, q⟩ := h.pair i hi h2
      have nf : i + 1 ≠ a := fun e => ca (by omega) (by rw [← e]; exact d)
      rw [ho _ b (by omega)]
      exact ⟨p, b, d, q⟩
  half := fun i hi h0 => by
    by_cases c : a ≤ i ∧ i < z
    · by_cases c2 : a + k ≤ i
      · rw [hm i c2 c.2] at h0
        have na : i ≠ a + k := fun e => ca (by omega) (by rw [show a = i - k by omega]; exact h0)
        obtain ⟨p, b⟩ := h.half _ (by omega) h0
        rw [hm (i - 1) (by omega) (by omega), show i - 1 - k = i - k - 1 by omega]
        exact ⟨hr i (by omega) c.2 p, b⟩
      · have := (hn i c.1 (by omega)).2.1; omega
    · rw [ho i hi c] at h0
      have pp := h.pos hi h0
      obtain ⟨p, b⟩ := h.half i hi h0
      have ne : i ≠ z := fun e => cz (by omega) (by rw [← e]; exact h0)
      rw [ho (i - 1) (by omega) (by omega)]
      exact ⟨p, b⟩
/-- a row that is right cell by cell is right -/
structure RowL (l : List Cel) : Prop where
  cell : ∀ i, i < l.length → CelOk (l.getD i celD)
  pair : ∀ i, i < l.length → (l.getD i celD).wide = 2 → i + 1 < l.length ∧ (l.getD (i + 1) celD).wide = 0 ∧ (l.getD (i + 1) celD).st = (l.getD i celD).st
  half : ∀ i, i < l.length → (l.getD i celD).wide = 0 → 0 < i ∧ (l.getD (i - 1) celD).wide = 2
theorem row_of : ∀ (n : Nat) (l : List Cel), l.length ≤ n → RowL l → rowR l = true := by
  intro n
  induction n with
  | zero => intro l h _; rw [List.length_eq_zero_iff.1 (by omega : l.length = 0)]; rfl
  | succ n ih =>
    intro l h R
    cases l with
    | nil => rfl
    | cons a r =>
      have ca := R.cell 0 (by simp)
      have pa := R.pair 0 (by simp)
      have ha := R.half 0 (by simp)
      simp only [List.getD_cons_zero] at ca pa ha
      rcases ca.w with ⟨w0, _⟩ | ⟨w1, o1⟩ | ⟨w2, o2⟩
      · exact absurd (ha w0).1 (by omega)
      · have sa : singC a = true := sing_mk w1 o1 ca.st
        cases r with
        | nil => exact sa
        | cons b r =>
          have np : pairC a b = false := by
            cases e : pairC a b with
            | false => rfl
            | true => have := (pair_parts e).1; omega
          show (if pairC a b = true then rowR r else if singC a = true then rowR (b :: r) else false) = true
          rw [if_neg (by rw [np]; decide), if_pos sa]
          refine ih _ (by simp at h ⊢; omega) ⟨fun i hi => ?_, fun i hi h2 => ?_, fun i hi h0 => ?_⟩
          · have := R.cell (i + 1) (by simp at hi ⊢; omega)
            simpa using this
          · have := R.pair (i + 1) (by simp at hi ⊢; omega) (by simpa using h2)
            simp only [List.getD_cons_succ, List.length_cons] at this ⊢
            exact ⟨by omega, this.2⟩
          · have := R.half (i + 1) (by simp at hi ⊢; omega) (by simpa using h0)
            rw [Nat.add_sub_cancel] at this
            rcases Nat.eq_zero_or_pos i with e | e
            · subst e; simp only [List.getD_cons_zero] at this; omega
            · refine ⟨e, ?_⟩
              have q := this.2
              rw [show i = i - 1 + 1 by omega, List.getD_cons_succ] at q
              exact q
      · obtain ⟨p1, p2, p3⟩ := pa w2
        cases r with
        | nil => simp at p1
        | cons b r =>
          simp only [Nat.zero_add, List.getD_cons_succ, List.getD_cons_zero] at p2 p3
          have cb := R.cell 1 (by simp)
          simp only [List.getD_cons_succ, List.getD_cons_zero] at cb
          have bt : b.text = ⟨#[]⟩ := by
            rcases cb.w with ⟨_, e⟩ | ⟨e, _⟩ | ⟨e, _⟩
            · exact e
            · omega
            · omega
          have pp : pairC a b = true := pair_mk w2 o2 p2 bt p3.symm ca.st
          show (if pairC a b = true then rowR r else if singC a = true then rowR (b :: r) else false) = true
          rw [if_pos pp]
          refine ih _ (by simp at h; omega) ⟨fun i hi => ?_, fun i hi h2 => ?_, fun i hi h0 => ?_⟩
          · have := R.cell (i + 2) (by simp; omega)
            simpa using this
          · have := R.pair (i + 2) (by simp; omega) (by simpa using h2)
            simp only [List.getD_cons_succ, List.length_cons] at this ⊢
            exact ⟨by omega, this.2⟩
          · have := R.half (i + 2) (by simp; omega) (by simpa using h0)
            rw [show i + 2 - 1 = i + 1 by omega, List.getD_cons_succ] at this
            rcases Nat.eq_zero_or_pos i with e | e
            · subst e; simp only [List.getD_cons_zero] at this; omega
            · refine ⟨e, ?_⟩
              have q := this.2
              rw [show i = i - 1 + 1 by omega, List.getD_cons_succ] at q
              exact q
theorem getD_cut (L : List Cel) (a n i : Nat) (h : i < n) : ((L.drop a).take n).getD i celD = L.getD (a + i) celD := by
  rw [List.getD_eq_getElem?_getD, List.getElem?_take_of_lt h, List.getElem?_drop, ← List.getD_eq_getElem?_getD]
theorem grid_rows {w : Nat} {L : List Cel} (h : Grid w L.length (fun i => L.getD i celD)) (y : Nat) (hy : y * w + w ≤ L.length) : rowR ((L.drop (y * w)).take w) = true := by
  have hl : ((L.drop (y * w)).take w).length = w := by rw [List.length_take, List.length_drop]; omega
  have md : ∀ i, (y * w + i) % w = i % w := fun i => by rw [Nat.add_comm, Nat.add_mul_mod_self_right]
  refine row_of _ _ (Nat.le_refl _) ⟨fun i hi => ?_, fun i hi h2 => ?_, fun i hi h0 => ?_⟩ <;> rw [hl] at hi
  · rw [getD_cut _ _ _ _ hi]; exact h.cell _ (by omega)
  · rw [getD_cut _ _ _ _ hi] at h2 ⊢
    obtain ⟨a, b, d, q⟩ := h.pair _ (by omega) h2
    have li : i + 1 < w := by
      rcases Nat.lt_or_ge (i + 1) w with c | c
      · exact c
      · exfalso
        apply a
        show (y * w + i + 1) % w = 0
        rw [Nat.add_assoc, md, show i + 1 = w by omega, Nat.mod_self]
    rw [hl, getD_cut _ _ _ _ li]
    exact ⟨li, d, q⟩
  · rw [getD_cut _ _ _ _ hi] at h0
    obtain ⟨a, b⟩ := h.half _ (by omega) h0
    have pi : 0 < i := by
      rcases Nat.eq_zero_or_pos i with e | e
      · subst e; exfalso; apply a; show (y * w + 0) % w = 0; rw [md]; exact Nat.zero_mod _
      · exact e
    rw [getD_cut _ _ _ _ (by omega), show y * w + (i - 1) = y * w + i - 1 by omega]
    exact ⟨pi, b⟩
end Go.Proofs.YtkllilehdpdbdaaGreatDoor
