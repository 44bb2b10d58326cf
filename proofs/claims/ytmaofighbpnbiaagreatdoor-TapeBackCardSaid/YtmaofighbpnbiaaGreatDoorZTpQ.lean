/- Tapes: what is read is written as the very bytes; no two bytes are one tape (plain; of no program). -/
import Derived.Test.YtmaofighbpnbiaaGreatDoorZTpP
namespace Go.Proofs.YtmaofighbpnbiaaGreatDoor
set_option linter.unusedVariables false

theorem fail_code {r : RdT} {c p : Int} (hc : c ≠ 0) : (failR r c p).code ≠ 0 := by
  unfold failR
  split
  · exact hc
  · assumption
theorem numRF_dec (D : List Int) (rng : ∀ b ∈ D, 0 ≤ b ∧ b < 256) (first : Nat) (most : Int) : ∀ (k i : Nat) (acc : Int) (r : RdT), (numRF D first most k i acc r).2.code = 0 →
    r.code = 0 ∧ (numRF D first most k i acc r).2.spot = r.spot ∧ ∃ m, (numRF D first most k i acc r).1 = acc + m * 128 ^ i ∧ 0 ≤ m ∧ m < 128 ^ k ∧ (0 < i → 0 < m) ∧ acc + m * 128 ^ i ≤ most ∧
      ∀ f, k ≤ f + 1 → D.drop r.at_ = numF f m ++ D.drop (numRF D first most k i acc r).2.at_ ∧ (numRF D first most k i acc r).2.at_ = r.at_ + (numF f m).length
  | 0, i, acc, r, h => by
    rw [numRF] at h
    exact absurd h (fail_code (by decide))
  | k + 1, i, acc, r, h => by
    rw [numRF] at h ⊢
    by_cases c1 : r.code ≠ 0
    · rw [if_pos c1] at h
      exact absurd h c1
    rw [if_neg c1] at h ⊢
    have c1 : r.code = 0 := by omega
    by_cases c2 : D.length ≤ r.at_
    · rw [if_pos c2] at h
      exact absurd h (fail_code (by decide))
    rw [if_neg c2] at h ⊢
    have lt : r.at_ < D.length := by omega
    have eg : D.getD r.at_ 0 = D[r.at_] := by rw [List.getD_eq_getElem?_getD, List.getElem?_eq_getElem lt]; rfl
    have rg := rng _ (List.getElem_mem lt)
    rw [← eg] at rg
    have dr : D.drop r.at_ = D.getD r.at_ 0 :: D.drop (r.at_ + 1) := by rw [List.drop_eq_getElem_cons lt, eg]
    generalize D.getD r.at_ 0 = x at *
    by_cases c3 : x < 128
    · rw [if_pos c3] at h ⊢
      by_cases c4 : (x = 0 ∧ 0 < i) ∨ most < acc + x * 128 ^ i
      · rw [if_pos c4] at h
        exact absurd h (fail_code (by decide))
      rw [if_neg c4] at h ⊢
      refine ⟨c1, rfl, x, rfl, rg.1, ?_, fun hi => ?_, by omega, fun f _ => ?_⟩
      · have e : (128 : Int) ^ (k + 1) = 128 ^ k * 128 := Int.pow_succ _ _
        have p : (1 : Int) ≤ 128 ^ k := by
          have := Int.pow_pos (n := 128) (m := k) (by decide)
          omega
        omega
      · rcases Int.lt_or_eq_of_le rg.1 with z | z
        · exact z
        · exact absurd (Or.inl ⟨z.symm, hi⟩) c4
      · rw [numF_small f x c3]
        exact ⟨dr, rfl⟩
    · rw [if_neg c3] at h ⊢
      obtain ⟨a1, a2, m, a3, a4, a5, a6, a7, a8⟩ := numRF_dec D rng first most k (i + 1) (acc + x % 128 * 128 ^ i) ⟨r.at_ + 1, r.code, r.spot⟩ h
      have k0 : 0 < k := by
        rcases Nat.eq_zero_or_pos k with z | z
        · subst z
          rw [numRF] at h
          exact absurd h (fail_code (by decide))
        · exact z
      have m0 := a6 (by omega)
      have dv : (m * 128 + x % 128) / 128 = m := by omega
      have md : (m * 128 + x % 128) % 128 = x % 128 := by omega
      have ps := pow_step i acc (m * 128 + x % 128)
      rw [dv, md] at ps
      refine ⟨c1, a2, m * 128 + x % 128, by rw [a3, ps], by omega, ?_, fun _ => by omega, by rw [← ps]; exact a7, fun f hf => ?_⟩
      · have e : (128 : Int) ^ (k + 1) = 128 ^ k * 128 := Int.pow_succ _ _
        rw [e]
        omega
      · obtain ⟨f', rfl⟩ : ∃ f', f = f' + 1 := ⟨f - 1, by omega⟩
        obtain ⟨b1, b2⟩ := a8 f' (by omega)
        rw [numF_step f' _ (by omega), dv, md]
        have e2 : 128 + x % 128 = x := by omega
        refine ⟨by rw [e2, dr, b1]; rfl, ?_⟩
        rw [b2]
        simp only [List.length_cons]
        omega
theorem numR_dec {D : List Int} (rng : ∀ b ∈ D, 0 ≤ b ∧ b < 256) {r : RdT} {most : Int} (h : (numR D r most).2.code = 0) :
    r.code = 0 ∧ 0 ≤ (numR D r most).1 ∧ (numR D r most).1 ≤ most ∧ D.drop r.at_ = numL (numR D r most).1 ++ D.drop (numR D r most).2.at_ ∧ (numR D r most).2.at_ = r.at_ + (numL (numR D r most).1).length := by
  obtain ⟨a1, a2, m, a3, a4, a5, a6, a7, a8⟩ := numRF_dec D rng r.at_ most 6 0 0 r h
  have e : (numR D r most).1 = m := by
    unfold numR
    rw [a3]
    simp
  rw [e]
  have a7' : m ≤ most := by simpa using a7
  exact ⟨a1, a4, a7', (a8 9 (by decide)).1, (a8 9 (by decide)).2⟩
theorem takeR_dec {D : List Int} {r : RdT} {n : Int} (h0 : 0 ≤ n) (h : (takeR D r n).2.code = 0) :
    r.code = 0 ∧ D.drop r.at_ = (takeR D r n).1 ++ D.drop (takeR D r n).2.at_ ∧ (takeR D r n).2.at_ = r.at_ + (takeR D r n).1.length ∧ ((takeR D r n).1.length : Int) = n ∧ (takeR D r n).2.at_ ≤ D.length := by
  unfold takeR at h ⊢
  by_cases c1 : r.code ≠ 0
  · rw [if_pos c1] at h
    exact absurd h c1
  rw [if_neg c1] at h ⊢
  by_cases c2 : (D.length : Int) - r.at_ < n
  · rw [if_pos c2] at h
    exact absurd h (fail_code (by decide))
  rw [if_neg c2] at h ⊢
  have len : ((D.drop r.at_).take n.toNat).length = n.toNat := by rw [List.length_take, List.length_drop]; omega
  simp only
  refine ⟨by omega, ?_, by rw [len], by rw [len]; omega, by omega⟩
  rw [← List.drop_drop, List.take_append_drop]
theorem headS_dec {D : List Int} {r : RdT} {i c : Int} (h : (headS D r i c).code = 0) : r.code = 0 ∧ D.drop r.at_ = c :: D.drop (headS D r i c).at_ ∧ (headS D r i c).at_ = r.at_ + 1 := by
  unfold headS at h ⊢
  by_cases c1 : (takeR D r 1).1 ≠ [] ∧ (takeR D r 1).1.getD 0 0 ≠ c
  · rw [if_pos c1] at h
    exact absurd h (fail_code (by decide))
  rw [if_neg c1] at h ⊢
  obtain ⟨a1, a2, a3, a4, _⟩ := takeR_dec (by decide) h
  generalize (takeR D r 1).1 = x at *
  have xl : x.length = 1 := by omega
  obtain ⟨y, rfl⟩ := List.length_eq_one_iff.1 xl
  have : y = c := by
    rcases Classical.em (y = c) with z | z
    · exact z
    · exact absurd ⟨by simp, by simpa using z⟩ c1
  subst this
  exact ⟨a1, a2, a3⟩
theorem frsR_dec (D : List Int) (rng : ∀ b ∈ D, 0 ≤ b ∧ b < 256) : ∀ (k : Nat) (last : Int) (r : RdT), 0 ≤ last → last ≤ 1099511627776 → (frsR D k last r).2.code = 0 →
    r.code = 0 ∧ (frsR D k last r).1.length = k ∧ timedF last (frsR D k last r).1 = true ∧ D.drop r.at_ = bodyL last (frsR D k last r).1 ++ D.drop (frsR D k last r).2.at_ ∧ (frsR D k last r).2.at_ = r.at_ + (bodyL last (frsR D k last r).1).length
  | 0, last, r, _, _, h => ⟨h, rfl, rfl, rfl, rfl⟩
  | k + 1, last, r, h0, h1, h => by
    rw [frsR] at h ⊢
    by_cases c1 : r.code ≠ 0
    · rw [if_pos c1] at h
      exact absurd h c1
    rw [if_neg c1] at h ⊢
    simp only at h ⊢
    by_cases pl : 0 ≤ (numR D r (1099511627776 - last)).1 ∧ (numR D r (1099511627776 - last)).1 ≤ 1099511627776 - last
    · obtain ⟨b1, b2, b3, b4, b5⟩ := frsR_dec D rng k _ _ (by omega) (by omega) h
      by_cases q0 : 0 ≤ (numR D (numR D r (1099511627776 - last)).2 1099511627776).1
      · obtain ⟨t1, t2, t3, t4, _⟩ := takeR_dec q0 b1
        obtain ⟨n1, n2, n3, n4, n5⟩ := numR_dec rng t1
        obtain ⟨m1, m2, m3, m4, m5⟩ := numR_dec rng n1
        refine ⟨m1, by rw [List.length_cons, b2], ?_, ?_, ?_⟩
        · rw [timedF, Bool.and_eq_true]
          exact ⟨decide_eq_true ⟨by simp only; omega, by simp only; omega⟩, b3⟩
        · rw [bodyL, m4, n4, t2, b4]
          have e : last + (numR D r (1099511627776 - last)).1 - last = (numR D r (1099511627776 - last)).1 := by omega
          rw [e, t4]
          simp only [List.append_assoc]
        · rw [bodyL]
          have e : last + (numR D r (1099511627776 - last)).1 - last = (numR D r (1099511627776 - last)).1 := by omega
          rw [e]
          simp only [List.length_append]
          rw [t4]
          omega
      · exfalso
        -- a number that was read is no less than none
        have z := b1
        unfold takeR at z
        by_cases c2 : (numR D (numR D r (1099511627776 - last)).2 1099511627776).2.code ≠ 0
        · rw [if_pos c2] at z
          exact c2 z
        · exact q0 (numR_dec rng (by omega)).2.1
    · exfalso
      by_cases c2 : (numR D r (1099511627776 - last)).2.code ≠ 0
      · -- then all that comes behind keeps the error
        refine absurd h ?_
        have n2 : (numR D (numR D r (1099511627776 - last)).2 1099511627776).2.code ≠ 0 := fun z => c2 (numR_dec rng z).1
        have t2 : (takeR D (numR D (numR D r (1099511627776 - last)).2 1099511627776).2 (numR D (numR D r (1099511627776 - last)).2 1099511627776).1).2.code ≠ 0 := by
          unfold takeR
          rw [if_pos n2]
          exact n2
        cases k with
        | zero => exact t2
        | succ k => rw [frsR, if_pos t2]; exact t2
      · have := numR_dec rng (r := r) (most := 1099511627776 - last) (by omega)
        exact pl ⟨this.2.1, this.2.2.1⟩
theorem sumR_dec {D : List Int} {r : RdT} (h : (sumR D r).code = 0) : r.code = 0 ∧ D.drop r.at_ = tail4 (sumL (D.take r.at_)) := by
  unfold sumR at h
  simp only at h
  by_cases c1 : (takeR D r 4).1 = []
  · rw [if_pos c1] at h
    obtain ⟨_, _, _, a4, _⟩ := takeR_dec (by decide) h
    rw [c1] at a4
    simp at a4
  rw [if_neg c1] at h
  by_cases c2 : (takeR D r 4).1 ≠ tail4 (sumL (D.take r.at_))
  · rw [if_pos c2] at h
    exact absurd h (fail_code (by decide))
  rw [if_neg c2] at h
  by_cases c3 : (takeR D r 4).2.at_ < D.length
  · rw [if_pos c3] at h
    exact absurd h (fail_code (by decide))
  rw [if_neg c3] at h
  obtain ⟨a1, a2, a3, a4, a5⟩ := takeR_dec (by decide) h
  have c2 : (takeR D r 4).1 = tail4 (sumL (D.take r.at_)) := by
    rcases Classical.em ((takeR D r 4).1 = tail4 (sumL (D.take r.at_))) with z | z
    · exact z
    · exact absurd z c2
  refine ⟨a1, ?_⟩
  rw [a2, c2, List.drop_eq_nil_of_le (by omega), List.append_nil]
theorem body_long : ∀ (l : List Frm) (last : Int) (n : Nat), (bodyL last l).length ≤ n → n ≤ 1048576 → longB l = false
  | [], _, _, _, _ => rfl
  | f :: l, last, n, h, hn => by
    rw [bodyL] at h
    simp only [List.length_append] at h
    rw [longB, List.any_cons, Bool.or_eq_false_iff]
    exact ⟨decide_eq_false (by omega), body_long l f.at_ n (by omega) hn⟩
theorem end_code {w h : Int} {l : List Frm} {r : RdT} (e : (endR w h l r).code = 0) : r.code = 0 ∧ endR w h l r = ⟨w, h, l, 0, 0⟩ := by
  unfold endR at e ⊢
  by_cases c : r.code ≠ 0
  · rw [if_pos c] at e
    exact absurd e c
  · rw [if_neg c]
    exact ⟨by omega, rfl⟩
/-- WHAT IS READ IS WRITTEN AS THE VERY BYTES -/
theorem enc_dec (D : List Int) (rng : ∀ b ∈ D, 0 ≤ b ∧ b < 256) (e : (decT D).code = 0) : encT (decT D).w (decT D).h (decT D).l = (D, 0) := by
  unfold decT at e ⊢
  by_cases len : 1048576 < D.length
  · rw [if_pos len] at e
    cases e
  rw [if_neg len] at e ⊢
  simp only at e ⊢
  obtain ⟨e1, e2⟩ := end_code e
  rw [e2]
  simp only
  clear e e2
  obtain ⟨s1, s2⟩ := sumR_dec e1
  clear e1
  by_cases nn : 0 ≤ (numR D (sizeR (numR D (numR D (startR D) 4096).2 4096).2 (numR D (startR D) 4096).2.at_ (numR D (startR D) 4096).1 (numR D (numR D (startR D) 4096).2 4096).1) 16384).1
  case neg =>
    exfalso
    obtain ⟨f1, _⟩ := frsR_dec D rng _ 0 _ (by decide) (by decide) s1
    exact nn (numR_dec rng f1).2.1
  obtain ⟨f1, f2, f3, f4, f5⟩ := frsR_dec D rng _ 0 _ (by decide) (by decide) s1
  obtain ⟨n1, n2, n3, n4, n5⟩ := numR_dec rng f1
  have sz : ¬ 1048576 < (numR D (startR D) 4096).1 * (numR D (numR D (startR D) 4096).2 4096).1 := fun z => by
    unfold sizeR at n1
    rw [if_pos z] at n1
    exact absurd n1 (fail_code (by decide))
  unfold sizeR at *
  rw [if_neg sz] at *
  obtain ⟨h1, h2, h3, h4, h5⟩ := numR_dec rng n1
  obtain ⟨w1, w2, w3, w4, w5⟩ := numR_dec rng h1
  unfold startR at w1 w4
  obtain ⟨x1, x2, x3⟩ := headS_dec w1
  obtain ⟨y1, y2, y3⟩ := headS_dec x1
  obtain ⟨z1, z2, z3⟩ := headS_dec y1
  have dd := z2
  rw [y2, x2, w4] at dd
  simp only [startR] at *
  generalize numR D (headS D (headS D (headS D ⟨0, 0, 0⟩ 0 70) 1 77) 2 1) 4096 = w at *
  rw [h4] at dd
  generalize numR D w.2 4096 = h at *
  rw [n4] at dd
  generalize numR D h.2 16384 = n at *
  rw [f4] at dd
  generalize frsR D n.1.toNat 0 n.2 = f at *
  rw [s2] at dd
  simp only [List.drop_zero] at dd
  have len' : D.length ≤ 1048576 := by omega
  have fl : (f.1.length : Int) = n.1 := by omega
  have hd : D = headL w.1 h.1 f.1.length ++ bodyL 0 f.1 ++ tail4 (sumL (D.take f.2.at_)) := by
    rw [fl]
    conv => lhs; rw [dd]
    unfold headL
    simp only [List.append_assoc, List.cons_append, List.nil_append]
  have tk : D.take f.2.at_ = headL w.1 h.1 f.1.length ++ bodyL 0 f.1 := by
    have : f.2.at_ = (headL w.1 h.1 f.1.length ++ bodyL 0 f.1).length := by
      rw [fl]
      unfold headL
      simp only [List.length_append, List.length_cons, List.length_nil]
      omega
    rw [this]
    conv => lhs; rw [hd]
    rw [List.take_left']
    rfl
  have hl := congrArg List.length hd
  rw [List.length_append, tail4_len] at hl
  have lb := body_long f.1 0 D.length (by rw [hl, List.length_append]; omega) len'
  unfold encT
  rw [if_neg (by
    rw [show sizedB w.1 h.1 = true from decide_eq_true ⟨w2, w3, h2, h3, by omega⟩]
    simp)]
  have ck : checkT f.1 = 0 := by
    unfold checkT manyB
    rw [lb, decide_eq_false (show ¬ 16384 < f.1.length by omega)]
    unfold timedB
    rw [f3]
    rfl
  rw [if_neg (by rw [ck]; simp), encF_fits f.1 _ 0 (by omega)]
  simp only
  have dn : doneL (headL w.1 h.1 f.1.length ++ bodyL 0 f.1) = D := by
    unfold doneL
    rw [← tk]
    conv => rhs; rw [hd]
    rw [← tk]
  rw [dn, if_neg (by omega)]
end Go.Proofs.YtmaofighbpnbiaaGreatDoor
