/- How often a frame's bytes clear the terminal (plain). -/
import Derived.Test.YtohgodifnbpafaaDoorDfF
namespace Go.Proofs.YtohgodifnbpafaaDoor
open Go.RowKit
set_option linter.unusedVariables false
set_option linter.unusedSimpArgs false

def pat4 : List UInt8 := [27, 91, 50, 74]
def clrN : List UInt8 → Nat
  | [] => 0
  | a :: r => (if (a :: r).take 4 = pat4 then 1 else 0) + clrN r
def Quiet (l : List UInt8) : Prop := ∀ r, clrN (l ++ r) = clrN r
theorem quiet_nil : Quiet [] := fun r => rfl
theorem quiet_app {a b : List UInt8} (ha : Quiet a) (hb : Quiet b) : Quiet (a ++ b) := fun r => by rw [List.append_assoc, ha, hb]
theorem clrN_cons (a : UInt8) (r : List UInt8) : clrN (a :: r) = (if (a :: r).take 4 = pat4 then 1 else 0) + clrN r := rfl
theorem clrN_other (a : UInt8) (r : List UInt8) (h : a ≠ 27) : clrN (a :: r) = clrN r := by
  rw [clrN_cons, if_neg, Nat.zero_add]
  intro e
  unfold pat4 at e
  simp at e
  exact h e.1
theorem quiet_no : ∀ {l : List UInt8}, (∀ b ∈ l, b ≠ 27) → Quiet l
  | [], _ => quiet_nil
  | a :: l, h => fun r => by
    show clrN (a :: (l ++ r)) = _
    rw [clrN_other a _ (h a (by simp)), quiet_no (fun b hb => h b (by simp [hb])) r]
theorem quiet_seq (c d : UInt8) (t : List UInt8) (h : c ≠ 50 ∨ d ≠ 74) (ht : ∀ b ∈ c :: d :: t, b ≠ 27) : Quiet (27 :: 91 :: c :: d :: t) := fun r => by
  show clrN (27 :: 91 :: c :: d :: (t ++ r)) = _
  rw [clrN_cons, if_neg, Nat.zero_add, clrN_other 91 _ (by decide)]
  · exact quiet_no ht r
  · intro e
    unfold pat4 at e
    simp at e
    rcases h with h | h
    · exact h e.1
    · exact h e.2
theorem clear_counts (r : List UInt8) : clrN (clearB.data.toList ++ r) = 1 + clrN r := by
  show clrN (27 :: 91 :: 48 :: 109 :: 27 :: 91 :: 63 :: 55 :: 108 :: 27 :: 91 :: 50 :: 74 :: 27 :: 91 :: 72 :: 27 :: 91 :: 63 :: 50 :: 53 :: 108 :: r) = _
  simp [clrN, pat4]

/-! numerals -/
def isDig (b : UInt8) : Prop := 48 ≤ b.toNat ∧ b.toNat ≤ 57
theorem digits_dig : ∀ u : Nat, (∀ b ∈ Lib.decDigits u, isDig b) ∧ Lib.decDigits u ≠ [] := by
  intro u
  induction u using Nat.strongRecOn with
  | ind u ih =>
    rw [Lib.decDigits]
    split
    · rename_i h
      refine ⟨fun b hb => ?_, by simp⟩
      rw [List.mem_singleton] at hb
      subst hb
      have : (UInt8.ofNat (48 + u)).toNat = 48 + u := by rw [UInt8.toNat_ofNat']; omega
      unfold isDig
      omega
    · rename_i h
      have q := ih (u / 10) (by omega)
      refine ⟨fun b hb => ?_, by simp⟩
      rcases List.mem_append.1 hb with hb | hb
      · exact q.1 b hb
      · rw [List.mem_singleton] at hb
        subst hb
        have : (UInt8.ofNat (48 + u % 10)).toNat = 48 + u % 10 := by rw [UInt8.toNat_ofNat']; omega
        unfold isDig
        omega
theorem itoa_dig (n : Int) (h : 0 ≤ n) : ∃ c r, (itB n).data.toList = c :: r ∧ ∀ b ∈ c :: r, isDig b := by
  have q := digits_dig n.toNat
  have e : (itB n).data.toList = Lib.decDigits n.toNat := by
    unfold itB Lib.itoa
    rw [if_neg (by omega)]
  rw [e]
  cases hd : Lib.decDigits n.toNat with
  | nil => exact absurd hd q.2
  | cons c r => exact ⟨c, r, rfl, by rw [hd] at q; exact q.1⟩
theorem dig_ne {b : UInt8} (h : isDig b) : b ≠ 27 ∧ b ≠ 74 := by
  unfold isDig at h
  constructor
  · rintro rfl; exact absurd h (by decide)
  · rintro rfl; exact absurd h (by decide)
theorem move_quiet (x y : Int) (hx : -1 ≤ x) (hy : -1 ≤ y) : Quiet (moveB x y).data.toList := by
  obtain ⟨c, r, e1, d1⟩ := itoa_dig (y + 1) (by omega)
  obtain ⟨c2, r2, e2, d2⟩ := itoa_dig (x + 1) (by omega)
  have e : (moveB x y).data.toList = [27, 91] ++ (c :: r) ++ [59] ++ (c2 :: r2) ++ [72] := by
    unfold moveB
    simp only [ByteArray.data_append, Array.toList_append, e1, e2]
  rw [e]
  cases r with
  | nil =>
    refine quiet_seq c 59 (c2 :: r2 ++ [72]) (Or.inr (by decide)) (fun b hb => ?_)
    simp only [List.mem_cons, List.mem_append, List.cons_append, List.not_mem_nil, or_false] at hb
    rcases hb with rfl | rfl | rfl | hb | rfl
    · exact (dig_ne (d1 _ (by simp))).1
    · decide
    · exact (dig_ne (d2 _ (by simp))).1
    · exact (dig_ne (d2 _ (by simp [hb]))).1
    · decide
  | cons d r =>
    refine quiet_seq c d (r ++ [59] ++ (c2 :: r2) ++ [72]) (Or.inr (dig_ne (d1 d (by simp))).2) (fun b hb => ?_)
    simp only [List.mem_cons, List.mem_append, List.cons_append, List.not_mem_nil, or_false] at hb
    rcases hb with rfl | rfl | ((hb | rfl) | (rfl | hb)) | rfl
    · exact (dig_ne (d1 _ (by simp))).1
    · exact (dig_ne (d1 _ (by simp))).1
    · exact (dig_ne (d1 _ (by simp [hb]))).1
    · decide
    · exact (dig_ne (d2 _ (by simp))).1
    · exact (dig_ne (d2 _ (by simp [hb]))).1
    · decide

/-! sequences -/
theorem semi_ok (l : List Int) (h : ∀ n ∈ l, 0 ≤ n) : (∀ b ∈ (semiB l).data.toList, isDig b ∨ b = 59) ∧ (l ≠ [] → ∃ c r, (semiB l).data.toList = c :: r ∧ isDig c) := by
  have key : ∀ (l : List Int) (s : ByteArray), (∀ n ∈ l, 0 ≤ n) → (∀ b ∈ s.data.toList, isDig b ∨ b = 59) → (s = zB ∨ ∃ c r, s.data.toList = c :: r ∧ isDig c) →
      (∀ b ∈ (l.foldl semi1 s).data.toList, isDig b ∨ b = 59) ∧ ((l.foldl semi1 s) = zB ∧ l = [] ∨ ∃ c r, (l.foldl semi1 s).data.toList = c :: r ∧ isDig c) := by
    intro l
    induction l with
    | nil => intro s _ h1 h2; exact ⟨h1, h2.imp (fun e => ⟨e, rfl⟩) id⟩
    | cons n l ih =>
      intro s hn h1 h2
      obtain ⟨c, r, e, d⟩ := itoa_dig n (hn n (by simp))
      have q : (∀ b ∈ (semi1 s n).data.toList, isDig b ∨ b = 59) ∧ ∃ c r, (semi1 s n).data.toList = c :: r ∧ isDig c := by
        unfold semi1
        by_cases z : s = zB
        · rw [if_pos z, z]
          have e0 : (zB ++ itB n).data.toList = c :: r := by rw [ByteArray.data_append, Array.toList_append, e]; rfl
          rw [e0]
          exact ⟨fun b hb => Or.inl (d b hb), c, r, rfl, d c (by simp)⟩
        · rw [if_neg z]
          have e0 : (s ++ ⟨#[59]⟩ ++ itB n).data.toList = s.data.toList ++ 59 :: (c :: r) := by rw [ByteArray.data_append, ByteArray.data_append, Array.toList_append, Array.toList_append, e]; simp
          rw [e0]
          obtain ⟨c', r', es, ds⟩ := h2.resolve_left z
          refine ⟨fun b hb => ?_, c', r' ++ 59 :: c :: r, by rw [es]; rfl, ds⟩
          rcases List.mem_append.1 hb with hb | hb
          · exact h1 b hb
          · rcases List.mem_cons.1 hb with rfl | hb
            · exact Or.inr rfl
            · exact Or.inl (d b hb)
      have := ih (semi1 s n) (fun m hm => hn m (by simp [hm])) q.1 (Or.inr q.2)
      refine ⟨this.1, ?_⟩
      rcases this.2 with ⟨e1, rfl⟩ | h
      · exact Or.inr q.2
      · exact Or.inr h
  have := key l zB h (fun b hb => by cases hb) (Or.inl rfl)
  refine ⟨this.1, fun ne => ?_⟩
  rcases this.2 with ⟨_, e⟩ | h
  · exact absurd e ne
  · exact h
theorem turn_quiet (f t : Sty) (hp : ∀ n ∈ paramsL f t, 0 ≤ n) : Quiet (turnB f t).data.toList := by
  unfold turnB
  obtain ⟨h1, h2⟩ := semi_ok (paramsL f t) hp
  by_cases z : semiB (paramsL f t) = zB
  · rw [if_pos z]; exact quiet_nil
  · rw [if_neg z]
    have ne : paramsL f t ≠ [] := fun e => z (by rw [e]; rfl)
    obtain ⟨c, r, e, d⟩ := h2 ne
    have e0 : (⟨#[27, 91]⟩ ++ semiB (paramsL f t) ++ ⟨#[109]⟩ : ByteArray).data.toList = 27 :: 91 :: c :: (r ++ [109]) := by
      rw [ByteArray.data_append, ByteArray.data_append, Array.toList_append, Array.toList_append, e]; rfl
    rw [e0]
    rw [e] at h1
    have n27 : ∀ b ∈ c :: r, b ≠ 27 ∧ b ≠ 74 := fun b hb => by
      rcases h1 b hb with q | rfl
      · exact dig_ne q
      · decide
    cases r with
    | nil =>
      refine quiet_seq c 109 [] (Or.inr (by decide)) (fun b hb => ?_)
      simp only [List.mem_cons, List.not_mem_nil, or_false] at hb
      rcases hb with rfl | rfl
      · exact (n27 _ (by simp)).1
      · decide
    | cons d2 r =>
      refine quiet_seq c d2 (r ++ [109]) (Or.inr (n27 d2 (by simp)).2) (fun b hb => ?_)
      simp only [List.mem_cons, List.mem_append, List.not_mem_nil, or_false] at hb
      rcases hb with rfl | rfl | hb | rfl
      · exact (n27 _ (by simp)).1
      · exact (n27 _ (by simp)).1
      · exact (n27 _ (by simp [hb])).1
      · decide
theorem show_quiet : Quiet showB.data.toList := quiet_seq 63 50 [53, 104] (Or.inl (by decide)) (by decide)
theorem hide_quiet : Quiet hideB.data.toList := quiet_seq 63 50 [53, 108] (Or.inl (by decide)) (by decide)

/-! texts -/
theorem byte27 (r : Int) (h : (27 : Int) ∈ bytesI r) : kindI r = 1 := by
  have c := charI_rng r
  have e : charI r = 27 := by
    unfold bytesI at h
    split at h
    · rw [List.mem_singleton] at h; exact h.symm
    · split at h
      · simp at h; omega
      · split at h
        · simp at h; omega
        · simp at h; omega
  have : r = 27 := by
    unfold charI at e
    split at e
    · exact e
    · omega
  rw [this]
  decide +kernel
theorem growK_all (l : List Int) (base : Int) : ∀ f n i, n ≤ i → i < growK l base f n → kindI (l.getD i 0) ≠ 1 := by
  intro f
  induction f with
  | zero => intro n i h1 h2; unfold growK at h2; omega
  | succ f ih =>
    intro n i h1 h2
    by_cases c : n < l.length ∧ takesK base (l.getD (n - 1) 0) (l.getD n 0) = true
    · rw [growK_go l base f n c] at h2
      by_cases e : i = n
      · subst e
        intro k
        have := c.2
        unfold takesK at this
        rw [k] at this
        simp at this
      · exact ih (n + 1) i (by omega) h2
    · rw [growK_stop l base (f + 1) n c] at h2
      omega
theorem first_all (l : List Int) (h : kindI (l.getD 0 0) ≠ 1) (i : Nat) (hi : i < firstC l) : kindI (l.getD i 0) ≠ 1 := by
  unfold firstC at hi
  rw [if_neg h] at hi
  by_cases b : i < beginK l
  · unfold beginK at b
    split at b
    · rename_i c
      have : i = 0 ∨ i = 1 := by omega
      rcases this with rfl | rfl
      · exact h
      · rw [c.2.2]; decide
    · have : i = 0 := by omega
      subst this
      exact h
  · exact growK_all l _ _ _ i (by omega) hi
theorem one_no27 (s : ByteArray) (w : Int) (h : oneB s = some w) (hw : w = 1 ∨ w = 2) : ∀ b ∈ s.data.toList, b ≠ 27 := by
  unfold oneB at h
  split at h
  · rename_i c e
    split at h
    · rename_i es
      cases h
      unfold splitB at e
      obtain ⟨d, hd, rfl⟩ := List.map_eq_singleton_iff.1 e
      by_cases z : runesB s = []
      · rw [z, clL_nil] at hd; cases hd
      · rw [clL_cons _ z] at hd
        have e1 := (List.cons.inj hd).1
        subst e1
        simp only at es hw
        have k1 : kindI ((runesB s).getD 0 0) ≠ 1 := by
          intro k
          have b := firstC_bounds (runesB s) z
          have e0 : ((runesB s).take (firstC (runesB s))).getD 0 0 = (runesB s).getD 0 0 := by
            simp [List.getD_eq_getElem?_getD, show 0 < firstC (runesB s) by omega]
          unfold wideC at hw
          rw [e0, if_pos (Or.inl k)] at hw
          omega
        have hr : ∀ r ∈ (runesB s).take (firstC (runesB s)), kindI r ≠ 1 := by
          intro r hr
          obtain ⟨i, hi, rfl⟩ := List.mem_iff_getElem.1 hr
          rw [List.length_take] at hi
          have := first_all (runesB s) k1 i (by omega)
          rw [List.getD_eq_getElem?_getD, List.getElem?_eq_getElem (by omega)] at this
          rw [List.getElem_take]
          exact this
        intro b hb
        rw [← es] at hb
        unfold barr at hb
        simp only [List.mem_map] at hb
        obtain ⟨n, hn, rfl⟩ := hb
        intro e27
        obtain ⟨r, hr1, hr2⟩ := List.mem_flatMap.1 hn
        have rg := bytesI_rng r n hr2
        have : n = 27 := by
          have := congrArg UInt8.toNat e27
          rw [UInt8.toNat_ofNat'] at this
          have e : (27 : UInt8).toNat = 27 := rfl
          omega
        rw [this] at hr2
        exact hr r hr1 (byte27 r hr2)
    · cases h
  · cases h
theorem row_no27 (l : List Cel) (h : rowR l = true) : ∀ c ∈ l, ∀ b ∈ c.text.data.toList, b ≠ 27 :=
  row_ind (P := fun l => ∀ c ∈ l, ∀ b ∈ c.text.data.toList, b ≠ 27) (fun c hc => by cases hc)
    (fun a l s _ q c hc => by
      rcases List.mem_cons.1 hc with rfl | hc
      · exact one_no27 _ _ (sing_parts s).2.1 (Or.inl rfl)
      · exact q c hc)
    (fun a b l p _ q c hc => by
      have pp := pair_parts p
      rcases List.mem_cons.1 hc with rfl | hc
      · exact one_no27 _ _ pp.2.1 (Or.inr rfl)
      · rcases List.mem_cons.1 hc with rfl | hc
        · intro x hx; rw [pp.2.2.2.1] at hx; cases hx
        · exact q c hc)
    l.length l (Nat.le_refl _) h

/-! a frame -/
/-- quiet bytes were added -/
def Adds (a b : ByteArray) : Prop := ∃ q : List UInt8, b.data.toList = a.data.toList ++ q ∧ Quiet q
theorem Adds.refl (a : ByteArray) : Adds a a := ⟨[], by simp, quiet_nil⟩
theorem Adds.trans {a b c : ByteArray} (h : Adds a b) (k : Adds b c) : Adds a c := by
  obtain ⟨p, e, hp⟩ := h
  obtain ⟨q, e2, hq⟩ := k
  exact ⟨p ++ q, by rw [e2, e, List.append_assoc], quiet_app hp hq⟩
theorem Adds.mk' (a s : ByteArray) (h : Quiet s.data.toList) : Adds a (a ++ s) := ⟨s.data.toList, by rw [ByteArray.data_append, Array.toList_append], h⟩
theorem unit_adds (W : Int) (t : Tel) (i n : Nat) (c : Cel) (w0 : 0 ≤ W) (hp : ∀ f g : Sty, ∀ n ∈ paramsL f g, 0 ≤ n) (hc : ∀ b ∈ c.text.data.toList, b ≠ 27) : Adds t.out (unitT W t i n c).out := by
  have a1 : Adds t.out (move1 t ((i : Int) % W) ((i : Int) / W) c.st c.text).out := by
    unfold move1
    split
    · refine Adds.mk' _ _ (move_quiet _ _ ?_ ?_)
      · rcases Int.lt_or_le 0 W with z | z
        · have := Int.emod_nonneg (i : Int) (show W ≠ 0 by omega); omega
        · have e : W = 0 := by omega
          rw [e, Int.emod_zero]; omega
      · have := Int.ediv_nonneg (show (0 : Int) ≤ i by omega) w0; omega
    · exact Adds.refl _
  have a2 : ∀ t u, Quiet u.data.toList → Adds t.out (turn1 t u).out := fun t u hu => by
    unfold turn1
    split
    · exact Adds.refl _
    · exact Adds.mk' _ _ hu
  exact (a1.trans (a2 _ _ (turn_quiet _ _ (hp _ _)))).trans (Adds.mk' _ _ (quiet_no hc))
theorem units_adds (W : Int) (L : List Cel) (w0 : 0 ≤ W) (hp : ∀ f g : Sty, ∀ n ∈ paramsL f g, 0 ≤ n) (hL : ∀ c ∈ L, ∀ b ∈ c.text.data.toList, b ≠ 27) : ∀ (pre : List (Nat × Nat)) (t : Tel), Adds t.out (unitsT W L t pre).out
  | [], t => Adds.refl _
  | p :: pre, t => by
    have hc : ∀ b ∈ (L.getD p.1 celD).text.data.toList, b ≠ 27 := by
      rcases Nat.lt_or_ge p.1 L.length with h | h
      · rw [List.getD_eq_getElem?_getD, List.getElem?_eq_getElem h]
        exact hL _ (List.getElem_mem h)
      · rw [List.getD_eq_getElem?_getD, List.getElem?_eq_none h]
        intro b hb; cases hb
    exact (unit_adds W t p.1 p.2 _ w0 hp hc).trans (units_adds W L w0 hp hL pre _)
theorem frame_adds (x : Wri) (r : Scr) (hr : rightS r = true) (hp : ∀ f g : Sty, ∀ n ∈ paramsL f g, 0 ≤ n) : Adds (start1 x (newB x r)).out (frameT x r).out := by
  obtain ⟨r1, _, _, r4⟩ := right_parts hr
  have sz := sized_parts r1
  have a1 := units_adds r.w r.cells sz.1 hp (row_no27 r.cells (right_row hr)) (diffU 0 (from1 x (newB x r) r) r.cells) (start1 x (newB x r))
  have a2 : ∀ t, Adds t.out (curs1 t r).out := fun t => by
    unfold curs1
    split
    · rename_i g
      simp only [Bool.and_eq_true] at g
      unfold cursR at r4
      rw [if_pos g.1] at r4
      simp only [Bool.and_eq_true, decide_eq_true_eq] at r4
      exact Adds.mk' _ _ (move_quiet _ _ (by omega) (by omega))
    · exact Adds.refl _
  have a3 : ∀ t a b, Adds t.out (show1 t a b).out := fun t a b => by
    unfold show1
    split
    · exact Adds.mk' _ _ show_quiet
    · split
      · exact Adds.mk' _ _ hide_quiet
      · exact Adds.refl _
  exact (a1.trans (a2 _)).trans (a3 _ _ _)
theorem frame_clears (x : Wri) (r : Scr) (hr : rightS r = true) (hp : ∀ f g : Sty, ∀ n ∈ paramsL f g, 0 ≤ n) :
    clrN (frameT x r).out.data.toList = (if newB x r = true then 1 else 0) ∧ (newB x r = true ↔ ∃ q, (frameT x r).out.data.toList = clearB.data.toList ++ q) := by
  obtain ⟨q, e, hq⟩ := frame_adds x r hr hp
  have q0 : clrN q = 0 := by have := hq []; rwa [List.append_nil] at this
  cases g : newB x r with
  | true =>
    rw [g] at e
    have e' : (frameT x r).out.data.toList = clearB.data.toList ++ q := e
    exact ⟨by rw [e', clear_counts, q0]; rfl, ⟨fun _ => ⟨q, e'⟩, fun _ => rfl⟩⟩
  | false =>
    rw [g] at e
    have e' : (frameT x r).out.data.toList = q := e
    refine ⟨by rw [e', q0]; rfl, ⟨(fun z => by cases z), fun ⟨p, hp'⟩ => ?_⟩⟩
    exfalso
    rw [e'] at hp'
    rw [hp', clear_counts] at q0
    omega
/-- a writer that must tell all anew tells what a new one tells -/
theorem frame_anew (x y : Wri) (r : Scr) (h : newB x r = true) (k : newB y r = true) : frameT x r = frameT y r := by
  unfold frameT
  rw [h, k]
  simp only [Bool.not_true, Bool.and_false]
  rfl
end Go.Proofs.YtohgodifnbpafaaDoor
