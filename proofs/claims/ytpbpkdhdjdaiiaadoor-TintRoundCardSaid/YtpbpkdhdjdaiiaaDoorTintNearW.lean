/- TintNear: the walk of the law. -/
import Derived.Test.YtpbpkdhdjdaiiaaDoorArr3
namespace Go.Proofs.YtpbpkdhdjdaiiaaDoor
open Go.RowKit
set_option linter.unusedVariables false

theorem bst_lt (D : Int → Int) (lo : Int) (k : Nat) (h : 1 ≤ k) : bst D lo k < lo + (k : Int) := by
  induction k with
  | zero => omega
  | succ k ih =>
    unfold bst
    split
    · omega
    · by_cases e : k = 0
      · subst e; simp [bst]; omega
      · have := ih (by omega); omega

theorem ch_pal (n : Int) (h0 : 0 ≤ n) (h1 : n < 256) : chR (256 + n) = pr n ∧ chG (256 + n) = pg n ∧ chB (256 + n) = pb n := by
  refine ⟨?_, ?_, ?_⟩
  · unfold chR; rw [if_neg (by omega), if_pos (by omega), show 256 + n - 256 = n by omega]
  · unfold chG; rw [if_neg (by omega), if_pos (by omega), show 256 + n - 256 = n by omega]
  · unfold chB; rw [if_neg (by omega), if_pos (by omega), show 256 + n - 256 = n by omega]

theorem cnt_pal (c : Int) (h0 : 256 ≤ c) (h1 : c < 512) : cnt c = c := by unfold cnt; rw [if_pos]; unfold rightB; rw [decide_eq_true_iff]; omega

structure NearOk (x A B : Int) : Prop where
  a0 : 272 ≤ A
  a1 : A ≤ 511
  b0 : 256 ≤ B
  b1 : B ≤ 271
  aa : to256V A = A
  bb : to16V B = B
  ba : to256V B = B
  best : ∀ n : Int, 16 ≤ n → n < 256 → dist (chR x) (chG x) (chB x) (chR A) (chG A) (chB A) < dist (chR x) (chG x) (chB x) (chR (256 + n)) (chG (256 + n)) (chB (256 + n)) ∨ (dist (chR x) (chG x) (chB x) (chR A) (chG A) (chB A) = dist (chR x) (chG x) (chB x) (chR (256 + n)) (chG (256 + n)) (chB (256 + n)) ∧ A ≤ 256 + n)
  best0 : ∀ n : Int, 0 ≤ n → n < 16 → dist (chR x) (chG x) (chB x) (chR B) (chG B) (chB B) < dist (chR x) (chG x) (chB x) (chR (256 + n)) (chG (256 + n)) (chB (256 + n)) ∨ (dist (chR x) (chG x) (chB x) (chR B) (chG B) (chB B) = dist (chR x) (chG x) (chB x) (chR (256 + n)) (chG (256 + n)) (chB (256 + n)) ∧ B ≤ 256 + n)

theorem near_ok (x : Int) (h0 : 16777216 ≤ x) (h1 : x < 33554432) : NearOk x (to256V x) (to16V x) := by
  have eA : to256V x = 256 + bst (palD (chR x) (chG x) (chB x)) 16 240 := by unfold to256V; rw [if_pos ⟨h0, h1⟩]
  have eB : to16V x = 256 + bst (palD (chR x) (chG x) (chB x)) 0 16 := by unfold to16V; rw [if_pos (Or.inl ⟨h0, h1⟩)]
  have m1 := bst_range (palD (chR x) (chG x) (chB x)) 16 240
  have m2 := bst_lt (palD (chR x) (chG x) (chB x)) 16 240 (by omega)
  have k1 := bst_range (palD (chR x) (chG x) (chB x)) 0 16
  have k2 := bst_lt (palD (chR x) (chG x) (chB x)) 0 16 (by omega)
  have B1 := bst_best (palD (chR x) (chG x) (chB x)) 16 240
  have B2 := bst_best (palD (chR x) (chG x) (chB x)) 0 16
  rw [eA, eB]
  generalize bst (palD (chR x) (chG x) (chB x)) 16 240 = m at *
  generalize bst (palD (chR x) (chG x) (chB x)) 0 16 = k at *
  refine ⟨by omega, by omega, by omega, by omega, ?_, ?_, ?_, ?_, ?_⟩
  · unfold to256V; rw [if_neg (by omega), cnt_pal _ (by omega) (by omega)]
  · unfold to16V; rw [if_neg (by omega), cnt_pal _ (by omega) (by omega)]
  · unfold to256V; rw [if_neg (by omega), cnt_pal _ (by omega) (by omega)]
  · intro n n0 n1
    obtain ⟨e1, e2, e3⟩ := ch_pal n (by omega) n1
    obtain ⟨f1, f2, f3⟩ := ch_pal m (by omega) (by omega)
    rw [e1, e2, e3, f1, f2, f3]
    have := B1 (n - 16).toNat (by omega)
    rw [show (16 : Int) + (((n - 16).toNat : Nat) : Int) = n by omega] at this
    rcases this with h | ⟨h, h'⟩
    · exact Or.inl h
    · exact Or.inr ⟨h, by omega⟩
  · intro n n0 n1
    obtain ⟨e1, e2, e3⟩ := ch_pal n (by omega) (by omega)
    obtain ⟨f1, f2, f3⟩ := ch_pal k (by omega) (by omega)
    rw [e1, e2, e3, f1, f2, f3]
    have := B2 n.toNat (by omega)
    rw [show (0 : Int) + ((n.toNat : Nat) : Int) = n by omega] at this
    rcases this with h | ⟨h, h'⟩
    · exact Or.inl h
    · exact Or.inr ⟨h, by omega⟩

theorem hasC_full (x : Int) (h0 : 16777216 ≤ x) (h1 : x < 33554432) : hasC x = true := by unfold hasC; rw [decide_eq_true_iff]; omega
theorem hasC_pal (x : Int) (h0 : 256 ≤ x) (h1 : x < 512) : hasC x = true := by unfold hasC; rw [decide_eq_true_iff]; omega

namespace tintNear
set_option maxHeartbeats 4000000 in
set_option maxRecDepth 100000 in
theorem tintNear_walk (c n : Int) (hc : (Lit.int .i32 c).wf = true) (hn : (Lit.int .u8 n).wf = true) (w : World) (E : Env w) :
    Calls Tryd.prog 6 #[.int .i32 c, .int .u8 n] w fun e w' => e = .returned (.bool true) ∧ Below w.heap.size w w' := by
  obtain ⟨hl, hh⟩ : -2147483648 ≤ c ∧ c ≤ 2147483647 := by have := bounds_i32 hc; omega
  obtain ⟨n0, n1⟩ : 0 ≤ n ∧ n ≤ 255 := by have := bounds_u8 hn; omega
  obtain ⟨x0, x1⟩ := fullV_range c
  have W0 := Lib.hid (law_works w E)
  have R1 := Lib.hid (law_full c hl hh)
  obtain ⟨a0, a1, b0, b1, aa, bb, ba, best, best0⟩ := near_ok (fullV c) x0 x1
  have T1 := Lib.hid (tint_To256 (fullV c))
  have T2 := Lib.hid (tint_To16 (fullV c))
  have T3 := tint_To256 (to256V (fullV c))
  rw [aa] at T3
  have T4 := tint_To16 (to16V (fullV c))
  rw [bb] at T4
  have T5 := tint_To256 (to16V (fullV c))
  rw [ba] at T5
  have T3 := Lib.hid T3; have T4 := Lib.hid T4; have T5 := Lib.hid T5
  have C1 := tint_RGB (fullV c)
  rw [hasC_full _ x0 x1] at C1
  have C2 := tint_RGB (to256V (fullV c))
  rw [hasC_pal _ (by omega) (by omega)] at C2
  have C3 := tint_RGB (to16V (fullV c))
  rw [hasC_pal _ (by omega) (by omega)] at C3
  have C4 := tint_RGB (256 + n)
  rw [hasC_pal _ (by omega) (by omega)] at C4
  have C1 := Lib.hid C1; have C2 := Lib.hid C2; have C3 := Lib.hid C3; have C4 := Lib.hid C4
  obtain ⟨p1, p2, p3⟩ := ch_range (fullV c)
  obtain ⟨q1, q2, q3⟩ := ch_range (to256V (fullV c))
  obtain ⟨r1, r2, r3⟩ := ch_range (to16V (fullV c))
  obtain ⟨s1, s2, s3⟩ := ch_range (256 + n)
  have F1 := Lib.hid (law_far _ _ _ _ _ _ p1 p2 p3 s1 s2 s3)
  have F2 := Lib.hid (law_far _ _ _ _ _ _ p1 p2 p3 q1 q2 q3)
  have F3 := Lib.hid (law_far _ _ _ _ _ _ p1 p2 p3 r1 r2 r3)
  have BEST := Lib.hid (best n)
  have BEST0 := Lib.hid (best0 n n0)
  have E := Lib.hid E
  clear hc hn hl hh aa bb ba best best0 p1 p2 p3 q1 q2 q3 r1 r2 r3 s1 s2 s3
  generalize hdS : dist (chR (fullV c)) (chG (fullV c)) (chB (fullV c)) (chR (256 + n)) (chG (256 + n)) (chB (256 + n)) = dS at *
  generalize hdQ : dist (chR (fullV c)) (chG (fullV c)) (chB (fullV c)) (chR (to256V (fullV c))) (chG (to256V (fullV c))) (chB (to256V (fullV c))) = dQ at *
  generalize hdR : dist (chR (fullV c)) (chG (fullV c)) (chB (fullV c)) (chR (to16V (fullV c))) (chG (to16V (fullV c))) (chB (to16V (fullV c))) = dR at *
  generalize to256V (fullV c) = A at *
  generalize to16V (fullV c) = B at *
  clear hdS hdQ hdR
  generalize fullV c = x at *
  go_enter Tryd.func6, Tryd.ntmps6
  go_wp2_with fail
  refine W0.out.mono ?_; rintro e w1 ⟨rfl, b1'⟩
  go_wp2_with fail
  refine (R1.out _).mono ?_; rintro e w' ⟨rfl, rfl⟩
  go_wp2_with fail
  refine (T1.out _).mono ?_; rintro e w2 ⟨rfl, b2'⟩
  have B2 := below_call b1' b1'.size b2'
  clear b1' b2'
  go_wp2_with fail
  refine (T2.out _).mono ?_; rintro e w3 ⟨rfl, b3'⟩
  have B3 := below_call B2 B2.size b3'
  clear B2 b3'
  go_wp2_with fail
  refine (T3.out _).mono ?_; rintro e w4 ⟨rfl, b4'⟩
  have B4 := below_call B3 B3.size b4'
  clear B3 b4'
  go_wp2_with fail
  refine (T4.out _).mono ?_; rintro e w5 ⟨rfl, b5'⟩
  have B5 := below_call B4 B4.size b5'
  clear B4 b5'
  go_wp2_with fail
  refine (T5.out _).mono ?_; rintro e w6 ⟨rfl, b6'⟩
  have B6 := below_call B5 B5.size b6'
  clear B5 b6'
  go_wp2_with fail
  refine (C1.out _).mono ?_; rintro e w7 ⟨rfl, b7'⟩
  have B7 := below_call B6 B6.size b7'
  have P7 := A3.new w7 (chR x) (chG x) (chB x)
  clear B6 b7'
  go_wp2_with fail
  refine (C2.out _).mono ?_; rintro e w8 ⟨rfl, b8'⟩
  have B8 := below_call (B7.alloc B7.size _) (by have := B7.size; simp; omega) b8'
  have P8 := P7.call b8'
  have Q8 := A3.new w8 (chR A) (chG A) (chB A)
  have P8 := P8.keep ((Below.refl w8.heap.size w8).alloc (Nat.le_refl _) (.cells #[.int .u8 (chR A), .int .u8 (chG A), .int .u8 (chB A)] 27)) P8.lt
  clear B7 P7 b8'
  go_wp2_with fail
  refine (C3.out _).mono ?_; rintro e w9 ⟨rfl, b9'⟩
  have B9 := below_call (B8.alloc B8.size _) (by have := B8.size; simp; omega) b9'
  have P9 := P8.call b9'
  have Q9 := Q8.call b9'
  have R9 := A3.new w9 (chR B) (chG B) (chB B)
  have P9 := P9.keep ((Below.refl w9.heap.size w9).alloc (Nat.le_refl _) (.cells #[.int .u8 (chR B), .int .u8 (chG B), .int .u8 (chB B)] 27)) P9.lt
  have Q9 := Q9.keep ((Below.refl w9.heap.size w9).alloc (Nat.le_refl _) (.cells #[.int .u8 (chR B), .int .u8 (chG B), .int .u8 (chB B)] 27)) Q9.lt
  clear B8 P8 Q8 b9'
  go_wp2_with fail
  refine (C4.out _).mono ?_; rintro e w10 ⟨rfl, b10'⟩
  have B10 := below_call (B9.alloc B9.size _) (by have := B9.size; simp; omega) b10'
  have P10 := P9.call b10'
  have Q10 := Q9.call b10'
  have R10 := R9.call b10'
  have PH := Lib.hid (P10.keep ((Below.refl w10.heap.size w10).alloc (Nat.le_refl _) (.cells #[.int .u8 (chR (256 + n)), .int .u8 (chG (256 + n)), .int .u8 (chB (256 + n))] 27)) P10.lt)
  have QH := Lib.hid (Q10.keep ((Below.refl w10.heap.size w10).alloc (Nat.le_refl _) (.cells #[.int .u8 (chR (256 + n)), .int .u8 (chG (256 + n)), .int .u8 (chB (256 + n))] 27)) Q10.lt)
  have RH := Lib.hid (R10.keep ((Below.refl w10.heap.size w10).alloc (Nat.le_refl _) (.cells #[.int .u8 (chR (256 + n)), .int .u8 (chG (256 + n)), .int .u8 (chB (256 + n))] 27)) R10.lt)
  obtain ⟨p0, p1, p2, pl⟩ := P10
  clear B9 P9 Q9 R9 b10' Q10 R10
  go_wp2_with fail
  refine (F1.out _).mono ?_; rintro e w11 ⟨rfl, b11'⟩
  have B11 := below_call (B10.alloc B10.size _) (by have := B10.size; simp; omega) b11'
  have P11 := PH.out.call b11'
  have Q11 := QH.out.call b11'
  have R11 := RH.out.call b11'
  have P11H := Lib.hid P11
  have Q11H := Lib.hid Q11
  have R11H := Lib.hid R11
  obtain ⟨u0, u1, u2, ul⟩ := P11
  obtain ⟨v0, v1, v2, vl⟩ := Q11
  obtain ⟨t0, t1, t2, tl⟩ := R11
  clear p0 p1 p2 pl B10 b11' PH QH RH
  by_cases h16 : 16 ≤ n
  · have best := BEST.out h16 (by omega)
    rcases best with lt | ⟨e, le⟩
    · go_wp2_with fail
      refine (F2.out _).mono ?_; rintro e w12 ⟨rfl, b12'⟩
      have B12 := below_call B11 B11.size b12'
      go_wp2_with fail
      go_ret
      exact ⟨rfl, B12⟩
    · have ne : ¬ dQ < dS := by omega
      have eb : (dS == dQ) = true := by rw [beq_iff_eq]; exact e.symm
      clear e
      go_wp2_with fail
      refine (F2.out _).mono ?_; rintro e w12 ⟨rfl, b12'⟩
      have B12 := below_call B11 B11.size b12'
      obtain ⟨u0', u1', u2', ul'⟩ := P11H.out.call b12'
      obtain ⟨v0', v1', v2', vl'⟩ := Q11H.out.call b12'
      clear u0 u1 u2 ul v0 v1 v2 vl t0 t1 t2 tl B11 b12'
      go_wp2_with fail
      refine (F2.out _).mono ?_; rintro e w13 ⟨rfl, b13'⟩
      have B13 := below_call B12 B12.size b13'
      go_wp2_with fail
      go_ret
      exact ⟨rfl, B13⟩
  · have best := BEST0.out (by omega)
    rcases best with lt | ⟨e, le⟩
    · go_wp2_with fail
      refine (F3.out _).mono ?_; rintro e w12 ⟨rfl, b12'⟩
      have B12 := below_call B11 B11.size b12'
      go_wp2_with fail
      go_ret
      exact ⟨rfl, B12⟩
    · have ne : ¬ dR < dS := by omega
      have eb : (dS == dR) = true := by rw [beq_iff_eq]; exact e.symm
      clear e
      go_wp2_with fail
      refine (F3.out _).mono ?_; rintro e w12 ⟨rfl, b12'⟩
      have B12 := below_call B11 B11.size b12'
      obtain ⟨u0', u1', u2', ul'⟩ := P11H.out.call b12'
      obtain ⟨v0', v1', v2', vl'⟩ := R11H.out.call b12'
      clear u0 u1 u2 ul v0 v1 v2 vl t0 t1 t2 tl B11 b12'
      go_wp2_with fail
      refine (F3.out _).mono ?_; rintro e w13 ⟨rfl, b13'⟩
      have B13 := below_call B12 B12.size b13'
      go_wp2_with fail
      go_ret
      exact ⟨rfl, B13⟩
end tintNear
end Go.Proofs.YtpbpkdhdjdaiiaaDoor
