/- Tapes: a turned byte is another tape; the bytes of a tape are bytes; what each law asks first (plain; of no program). -/
import Derived.Test.YtmaofighbpnbiaaGreatDoorYTpM
namespace Go.Proofs.YtmaofighbpnbiaaGreatDoor
set_option linter.unusedVariables false
set_option linter.unusedSimpArgs false
def Byt (D : List Int) : Prop := ∀ b ∈ D, 0 ≤ b ∧ b < 256
theorem Byt.app {a b : List Int} (ha : Byt a) (hb : Byt b) : Byt (a ++ b) := fun x m => (List.mem_append.1 m).elim (ha x) (hb x)
theorem numF_byt : ∀ (k : Nat) (n : Int), 0 ≤ n → n < 128 ^ (k + 1) → Byt (numF k n)
 | 0, n, h0, h1 => fun b m => by
  rw [numF, List.mem_singleton] at m
  subst m
  have e : (128 : Int) ^ (0 + 1) = 128 := by decide
  rw [e] at h1
  omega
 | k + 1, n, h0, h1 => by
  by_cases c : n < 128
  ·rw [numF_small (k + 1) n c]
   intro b m
   rw [List.mem_singleton] at m
   subst m
   omega
  ·rw [numF_step k n (by omega)]
   have e : (128 : Int) ^ (k + 1 + 1) = 128 ^ (k + 1) * 128 := Int.pow_succ _ _
   rw [e] at h1
   have ih := numF_byt k (n / 128) (by omega) (Int.ediv_lt_of_lt_mul (by decide) h1)
   intro b m
   rcases List.mem_cons.1 m with rfl | m
   ·omega
   ·exact ih b m
theorem numL_byt {n : Int} (h0 : 0 ≤ n) (h1 : n ≤ 1099511627776) : Byt (numL n) := numF_byt 9 n h0 (by
 have e : (128 : Int) ^ (9 + 1) = 1180591620717411303424 := by decide
 rw [e]
 omega)
theorem sumF_rng : ∀ (l : List Int) (a c : Int), 0 ≤ a → a < 65521 → 0 ≤ c → c < 65521 → (0 ≤ (sumF l a c).1 ∧ (sumF l a c).1 < 65521) ∧ (0 ≤ (sumF l a c).2 ∧ (sumF l a c).2 < 65521)
 | [], a, c, a0, a1, c0, c1 => ⟨⟨a0, a1⟩, c0, c1⟩
 | b :: l, a, c, a0, a1, c0, c1 => by
  rw [sumF]
  exact sumF_rng l _ _ (by omega) (by omega) (by omega) (by omega)
theorem sumL_rng (D : List Int) : 0 ≤ sumL D ∧ sumL D < 4294967296 := by
 have h := sumF_rng D 1 0 (by decide) (by decide) (by decide) (by decide)
 unfold sumL
 omega
theorem tail4_byt (D : List Int) : Byt (tail4 (sumL D)) := by
 have h := sumL_rng D
 intro b m
 unfold tail4 at m
 simp only [List.mem_cons, List.not_mem_nil, or_false] at m
 rcases m with rfl | rfl | rfl | rfl <;> omega
theorem body_byt : ∀ (l : List Frm) (last : Int), 0 ≤ last → timedF last l = true → longB l = false → (∀ f ∈ l, Byt f.bs) → Byt (bodyL last l)
 | [], _, _, _, _, _ => fun b m => by cases m
 | f :: l, last, h0, ht, hl, hb => by
  rw [timedF, Bool.and_eq_true] at ht
  have t1 := of_decide_eq_true ht.1
  rw [longB, List.any_cons, Bool.or_eq_false_iff] at hl
  have l1 := of_decide_eq_false hl.1
  rw [bodyL]
  exact (((numL_byt (by omega) (by omega)).app (numL_byt (by omega) (by omega))).app (hb f (by simp))).app (body_byt l f.at_ (by omega) ht.2 hl.2 (fun g m => hb g (by simp [m])))
theorem enc_parts {w h : Int} {l : List Frm} {b : List Int} (e : encT w h l = (b, 0)) : sizedB w h = true ∧ checkT l = 0 ∧ b = doneL (headL w h l.length ++ bodyL 0 l) ∧ b.length ≤ 1048576 := by
 unfold encT at e
 split at e
 ·cases e
 rename_i sz
 split at e
 ·rename_i ne
  simp only [Prod.mk.injEq] at e
  exact absurd e.2 ne
 rename_i ck
 split at e
 ·cases e
 rename_i c hc
 have ec := encF_some l _ _ c hc
 split at e
 ·cases e
 rename_i len
 simp only [Prod.mk.injEq, and_true] at e
 refine ⟨by cases q : sizedB w h with | false => exact absurd q sz | true => rfl, by omega, by rw [← e, ec], by rw [← e]; omega⟩
theorem enc_byt {w h : Int} {l : List Frm} {b : List Int} (e : encT w h l = (b, 0)) (hb : ∀ f ∈ l, Byt f.bs) : Byt b := by
 obtain ⟨sz, ck, eb, _⟩ := enc_parts e
 have s := of_decide_eq_true sz
 obtain ⟨p1, p2, p3⟩ := check_parts ck
 rw [eb]
 unfold doneL headL
 have hd : Byt [70, 77, 1] := by intro x m; simp at m; rcases m with rfl | rfl | rfl <;> decide
 exact ((((hd.app (numL_byt s.1 (by omega))).app (numL_byt s.2.2.1 (by omega))).app (numL_byt (by omega) (by omega))).app (body_byt l 0 (by decide) p3 p1 hb)).app (tail4_byt _)
theorem dec_none {D : List Int} (h : (decT D).code ≠ 0) : (decT D).w = 0 ∧ (decT D).h = 0 ∧ (decT D).l = [] := by
 unfold decT at h ⊢
 by_cases len : 1048576 < D.length
 ·rw [if_pos len]; exact ⟨rfl, rfl, rfl⟩
 ·rw [if_neg len] at h ⊢
  simp only at h ⊢
  unfold endR at h ⊢
  split
  ·exact ⟨rfl, rfl, rfl⟩
  ·rename_i c
   rw [if_neg c] at h
   exact absurd rfl h
/-! what each law asks first -/
def alL : List Frm := [⟨10, [97, 98]⟩, ⟨20, [13, 120]⟩]
def alB : List Int := (encT 3 1 alL).1
theorem al_enc : encT 3 1 alL = (alB, 0) := by decide +kernel
theorem al_dec : decT alB = ⟨3, 1, alL, 0, 0⟩ := dec_enc 3 1 alL alB al_enc
theorem al_one : ((playT 3 1 (alL.take 1)).cells.getD 0 celD).text = ⟨#[97]⟩ ∧ (playT 3 1 (alL.take 1)).cells.length = 3 := by decide +kernel
theorem al_two : ((playT 3 1 alL).cells.getD 0 celD).text = ⟨#[120]⟩ ∧ ((playT 3 1 alL).cells.getD 1 celD).text = ⟨#[98]⟩ ∧ (playT 3 1 alL).cells.length = 3 := by decide +kernel
end Go.Proofs.YtmaofighbpnbiaaGreatDoor
