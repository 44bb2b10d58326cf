/- What is written is read again (plain). -/
import Derived.Test.YthcdcbibbfdjmaaDoorStyW
namespace Go.Proofs.YthcdcbibbfdjmaaDoor
open Go.RowKit
set_option linter.unusedVariables false

def dropW (i : Nat) : ByteArray := noB ++ atN i
def bitsL (b : B8) : List Nat := (List.range 8).filter fun i => b.getLsbD i
/-- the words of a patch -/
def textL (q : Pat) : List ByteArray := (bitsL q.drop).map dropW ++ (bitsL q.add).map atN ++ (if q.fg = 0 then [] else [textB q.fg]) ++ (if q.bg = 0 then [] else [onB, textB q.bg])
def joinB (ws : List ByteArray) : ByteArray := mkB (joinL (ws.map fun s => s.data.toList))
def rightP (p : Pat) : Bool := rightB p.fg && rightB p.bg
def textS (p : Pat) : Option ByteArray := if rightP p = true then some (joinB (textL (toldP p))) else none

theorem att_names : ∀ i : Fin 8, attB (atN i.val) = bitN i.val ∧ offB (atN i.val) = 0 ∧ attB (dropW i.val) = 0 ∧ offB (dropW i.val) = bitN i.val ∧ bitN i.val ≠ 0 ∧ isWord (atN i.val).data.toList = true ∧ isWord (dropW i.val).data.toList = true := by decide +kernel

def orL (l : List Nat) : B8 := l.foldr (fun i b => bitN i ||| b) 0
theorem or_bits : ∀ b : B8, orL (bitsL b) = b := by decide +kernel
theorem bits_lt (b : B8) : (bitsL b).Nodup ∧ ∀ i ∈ bitsL b, i < 8 ∧ b.getLsbD i = true := by
  refine ⟨List.Pairwise.filter _ List.nodup_range, fun i hi => ?_⟩
  unfold bitsL at hi
  rw [List.mem_filter, List.mem_range] at hi
  exact hi
theorem bitN_bit (i j : Nat) (hi : i < 8) (hj : j < 8) : (bitN i).getLsbD j = decide (i = j) := by
  have h : ∀ i j : Fin 8, (bitN i.val).getLsbD j.val = decide (i.val = j.val) := by decide
  exact h ⟨i, hi⟩ ⟨j, hj⟩
theorem and_bit (x : B8) (i : Nat) (hi : i < 8) (h : x.getLsbD i = false) : x &&& bitN i = 0 := by
  apply b8_ext
  intro j hj
  have z : (0 : B8).getLsbD j = false := by simp
  rw [BitVec.getLsbD_and, bitN_bit i j hi hj, z]
  by_cases e : i = j
  · subst e; rw [h]; rfl
  · simp [e]

theorem b8_or0 (x : B8) : x ||| (0 : B8) = x := by simp
theorem b8_bit0 (j : Nat) : (0 : B8).getLsbD j = false := by simp

theorem par_drops (l : List Nat) : ∀ (p : Pat) (r : List ByteArray), l.Nodup → (∀ i ∈ l, i < 8 ∧ (p.add ||| p.drop).getLsbD i = false) →
    parL p (l.map dropW ++ r) = parL { p with drop := p.drop ||| orL l } r := by
  induction l with
  | nil => intro p r _ _; simp [orL]
  | cons i l ih =>
    intro p r nd h
    obtain ⟨n1, n2⟩ := List.nodup_cons.1 nd
    obtain ⟨hi, hb⟩ := h i (by simp)
    obtain ⟨a1, a2, a3, a4, a5, _⟩ := att_names ⟨i, hi⟩
    simp only at a1 a2 a3 a4 a5
    have z : (0 : B8) ||| bitN i = bitN i := by simp
    rw [List.map_cons, List.cons_append]
    conv => lhs; unfold parL
    rw [a3, a4, z, if_pos a5, if_neg (by rw [and_bit _ i hi hb]; simp), ih _ r n2]
    · simp only [orL, List.foldr_cons, b8_or0, BitVec.or_assoc]
    · intro j hj
      obtain ⟨hj8, hjb⟩ := h j (List.mem_cons_of_mem _ hj)
      refine ⟨hj8, ?_⟩
      have ne : i ≠ j := fun e => n1 (e ▸ hj)
      simp only [b8_bit0, Bool.or_false, BitVec.getLsbD_or, bitN_bit i j hi hj8] at hjb ⊢
      simp only [ne, decide_false, Bool.or_false]
      exact hjb
theorem par_adds (l : List Nat) : ∀ (p : Pat) (r : List ByteArray), l.Nodup → (∀ i ∈ l, i < 8 ∧ (p.add ||| p.drop).getLsbD i = false) →
    parL p (l.map atN ++ r) = parL { p with add := p.add ||| orL l } r := by
  induction l with
  | nil => intro p r _ _; simp [orL]
  | cons i l ih =>
    intro p r nd h
    obtain ⟨n1, n2⟩ := List.nodup_cons.1 nd
    obtain ⟨hi, hb⟩ := h i (by simp)
    obtain ⟨a1, a2, a3, a4, a5, _⟩ := att_names ⟨i, hi⟩
    simp only at a1 a2 a3 a4 a5
    have z : bitN i ||| (0 : B8) = bitN i := by simp
    rw [List.map_cons, List.cons_append]
    conv => lhs; unfold parL
    rw [a1, a2, z, if_pos a5, if_neg (by rw [and_bit _ i hi hb]; simp), ih _ r n2]
    · simp only [orL, List.foldr_cons, b8_or0, BitVec.or_assoc]
    · intro j hj
      obtain ⟨hj8, hjb⟩ := h j (List.mem_cons_of_mem _ hj)
      refine ⟨hj8, ?_⟩
      have ne : i ≠ j := fun e => n1 (e ▸ hj)
      simp only [b8_bit0, Bool.or_false, BitVec.getLsbD_or, bitN_bit i j hi hj8] at hjb ⊢
      simp only [ne, decide_false, Bool.or_false]
      exact hjb

abbrev colP (c : Int) : Prop := c = 1 ∨ (256 ≤ c ∧ c < 512) ∨ (16777216 ≤ c ∧ c < 33554432)
theorem at_heads : ∀ i : Fin 8, (atN i.val).data.toList.headD 0 ≠ 35 ∧ (atN i.val).data.toList.headD 0 ≠ 64 := by decide +kernel
theorem at_nameB : ∀ (i : Fin 8) (n : Fin 16), atN i.val ≠ nameB n.val := by decide +kernel
theorem at_plainB : ∀ (i : Fin 8), atN i.val ≠ plainB := by decide +kernel
theorem off_names : ∀ n : Fin 16, offB (nameB n.val) = 0 ∧ nameB n.val ≠ onB ∧ isWord (nameB n.val).data.toList = true := by decide +kernel
theorem off_at : ∀ n : Fin 256, offB (atB n.val) = 0 ∧ isWord (atB n.val).data.toList = true := by decide +kernel
theorem off_plain : offB plainB = 0 ∧ plainB ≠ onB ∧ isWord plainB.data.toList = true := by decide +kernel
theorem dgt_word : ∀ d : Fin 16, (!blankR (dgt d.val).toNat) = true := by decide +kernel
theorem digs_word (N : Nat) : ∀ k, ((digL 16 N k).all fun b => !blankR b.toNat) = true := by
  intro k
  induction k with
  | zero => rfl
  | succ k ih => rw [digL, List.all_cons, ih, Bool.and_true]; exact dgt_word ⟨N / 16 ^ k % 16, Nat.mod_lt _ (by decide)⟩

theorem text_is (c : Int) (h : colP c) : colW (textB c) = some c := (colW_word _).uniq (word_text c h)
theorem text_word (c : Int) (h : colP c) : attB (textB c) = 0 ∧ offB (textB c) = 0 ∧ textB c ≠ onB ∧ isWord (textB c).data.toList = true := by
  rcases h with rfl | ⟨h0, h1⟩ | ⟨h0, h1⟩
  · rw [show textB 1 = plainB from rfl]
    exact ⟨attB_none _ fun m hm e => at_plainB ⟨m, hm⟩ e.symm, off_plain⟩
  · by_cases c2 : c < 272
    · have e : textB c = nameB (c - 256).toNat := by unfold textB; rw [if_neg (by omega), if_pos ⟨h0, c2⟩]
      rw [e]
      have lt : (c - 256).toNat < 16 := by omega
      exact ⟨attB_none _ fun m hm e => at_nameB ⟨m, hm⟩ ⟨_, lt⟩ e.symm, off_names ⟨_, lt⟩⟩
    · have e : textB c = atB (c - 256).toNat := by unfold textB atB; rw [if_neg (by omega), if_neg (by omega), if_pos (by omega)]
      rw [e]
      obtain ⟨o1, o2⟩ := off_at ⟨(c - 256).toNat, by omega⟩
      exact ⟨attB_none _ fun m hm => head_ne (by rw [head_at]; have := (at_heads ⟨m, hm⟩).2; exact fun e => this e.symm), o1, head_ne (by rw [head_at]; decide), o2⟩
  · have e : textB c = ⟨(35 :: digL 16 (c - 16777216).toNat 6).toArray⟩ := by unfold textB; rw [if_neg (by omega), if_neg (by omega), if_neg (by omega), if_pos ⟨h0, h1⟩]
    have hd : (textB c).data.toList.headD 0 = 35 := by rw [e]; rfl
    refine ⟨attB_none _ fun m hm => head_ne (by rw [hd]; have := (at_heads ⟨m, hm⟩).1; exact fun e => this e.symm), ?_, head_ne (by rw [hd]; decide), ?_⟩
    · unfold offB
      rw [if_neg]
      intro e2
      have : ((textB c).extract 0 3).data.toList.headD 0 = 110 := by rw [e2]; rfl
      rw [e] at this
      rw [show (⟨(35 :: digL 16 (c - 16777216).toNat 6).toArray⟩ : ByteArray) = mkB (35 :: digL 16 (c - 16777216).toNat 6) from rfl, mkB_cut] at this
      revert this
      show ¬ (List.headD (List.take 3 (35 :: _)) 0 = 110)
      simp
    · rw [e]
      show isWord (35 :: digL 16 (c - 16777216).toNat 6) = true
      unfold isWord
      rw [List.all_cons, digs_word]
      rfl

/-- a patch as it counts -/
def okP (q : Pat) : Prop := (q.fg = 0 ∨ colP q.fg) ∧ (q.bg = 0 ∨ colP q.bg) ∧ ∀ i, i < 8 → (q.add.getLsbD i && q.drop.getLsbD i) = false

theorem par_text (q : Pat) (h : okP q) : parL emptyP (textL q) = .ok q := by
  obtain ⟨h1, h2, h3⟩ := h
  unfold textL
  obtain ⟨d1, d2⟩ := bits_lt q.drop
  obtain ⟨a1, a2⟩ := bits_lt q.add
  rw [List.append_assoc, List.append_assoc, par_drops _ _ _ d1 (fun i hi => ⟨(d2 i hi).1, by simp [emptyP]⟩), or_bits,
    par_adds _ _ _ a1 (fun i hi => ⟨(a2 i hi).1, by
      have := h3 i (a2 i hi).1
      rw [(a2 i hi).2] at this
      simp [emptyP]
      simpa using this⟩), or_bits]
  have e0 : (emptyP.drop ||| q.drop) = q.drop ∧ (emptyP.add ||| q.add) = q.add := by simp [emptyP]
  obtain ⟨qf, qb, qa, qd⟩ := q
  simp only at h1 h2 e0 ⊢
  rw [e0.1, e0.2]
  have tl : ∀ f : Int, parL ⟨f, emptyP.bg, qa, qd⟩ (if qb = 0 then [] else [onB, textB qb]) = .ok ⟨f, qb, qa, qd⟩ := by
    intro f
    rcases h2 with rfl | h2
    · rw [if_pos rfl]; rfl
    · have b0 : qb ≠ 0 := by rcases h2 with h | h | h <;> omega
      rw [if_neg b0]
      unfold parL
      rw [if_neg (by decide +kernel), if_pos rfl]
      simp only [text_is qb h2]
      rw [if_neg (by decide)]
      rfl
  rcases h1 with rfl | h1
  · rw [if_pos rfl, List.nil_append]; exact tl 0
  · have b0 : qf ≠ 0 := by rcases h1 with h | h | h <;> omega
    obtain ⟨t1, t2, t3, _⟩ := text_word qf h1
    rw [if_neg b0, List.singleton_append]
    conv => lhs; unfold parL
    rw [t1, t2, if_neg (by decide), if_neg t3]
    simp only [text_is qf h1]
    rw [if_neg (by decide)]
    exact tl qf
end Go.Proofs.YthcdcbibbfdjmaaDoor
